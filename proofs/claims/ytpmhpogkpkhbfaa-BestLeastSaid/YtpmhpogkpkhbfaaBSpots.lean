/-
  best's tables' spots: what they append. Conditions: the table of tops reads as T (RDS), the variable holds a slice of the call's own (OB).
-/
import Derived.Test.YtpmhpogkpkhbfaaOutVar
import Derived.Test.YtpmhpogkpkhbfaaRds
namespace Go.Proofs.Ytpmhpogkpkhbfaa
open Go.ChangeShapes Go.WideShapes Go.ChangeAt Go.RowKit
set_option linter.unusedVariables false
set_option linter.unusedSimpArgs false

/-- The spots of a part, by its tops. -/
def spB (T : Nat → Nat → Int) : Nat → Nat → Nat → Int → List IP
  | 0, _, _, _ => []
  | m + 1, i, j, d => if i < j then spB T m i (T i j).toNat (d + 1) ++ [(((T i j).toNat : Int), d)] ++ spB T m ((T i j).toNat + 1) j (d + 1) else []
def TopsIn (T : Nat → Nat → Int) (n : Nat) : Prop := ∀ i j, i < j → j ≤ n → ∃ r : Nat, i ≤ r ∧ r < j ∧ T i j = (r : Int)
theorem spB_len {T : Nat → Nat → Int} {n : Nat} (hT : TopsIn T n) : ∀ m i j d, j - i ≤ m → i ≤ j → j ≤ n → (spB T m i j d).length = j - i
  | 0, i, j, d, h, _, _ => by simp [spB]; omega
  | m + 1, i, j, d, h, hij, hj => by
    rw [spB]
    by_cases e : i < j
    · obtain ⟨r, h1, h2, h3⟩ := hT i j e hj
      rw [if_pos e, h3, Int.toNat_natCast]
      have a1 := spB_len hT m i r (d + 1) (by omega) h1 (by omega)
      have a2 := spB_len hT m (r + 1) j (d + 1) (by omega) (by omega) hj
      simp [a1, a2]; omega
    · rw [if_neg e]; simp; omega
theorem spB_fuel {T : Nat → Nat → Int} {n : Nat} (hT : TopsIn T n) : ∀ m m' i j d, j - i ≤ m → j - i ≤ m' → i ≤ j → j ≤ n → spB T m i j d = spB T m' i j d
  | 0, m', i, j, d, h, h', hij, hj => by
    have : ¬ i < j := by omega
    cases m' with
    | zero => rfl
    | succ m' => rw [spB, spB, if_neg this]
  | m + 1, 0, i, j, d, h, h', hij, hj => by
    have : ¬ i < j := by omega
    rw [spB, spB, if_neg this]
  | m + 1, m' + 1, i, j, d, h, h', hij, hj => by
    rw [spB, spB]
    by_cases e : i < j
    · obtain ⟨r, h1, h2, h3⟩ := hT i j e hj
      rw [if_pos e, if_pos e, h3, Int.toNat_natCast, spB_fuel hT m m' i r (d + 1) (by omega) (by omega) h1 (by omega), spB_fuel hT m m' (r + 1) j (d + 1) (by omega) (by omega) (by omega) hj]
    · rw [if_neg e, if_neg e]
def tabL (T : Nat → Nat → Int) (c : Nat) : List (List Int) := (List.range c).map fun r => (List.range c).map (T r)
theorem tabL_len {T : Nat → Nat → Int} {c : Nat} : (tabL T c).length = c := by simp [tabL]
/-- A cell of a table. -/
theorem tab_at {T : Nat → Nat → Int} {c N C : Nat} {A : Option Addr} {w : World} (h : RDS w eInt (.slice A N C) (tabL T c)) {i j : Nat} (hi : i < c) (hj : j < c) :
    ∃ b o b' o' C', A = some ⟨b, o, none⟩ ∧ N = c ∧ w.cell? ⟨b, o + i, none⟩ = some (.slice (some ⟨b', o', none⟩) c C') ∧ w.cell? ⟨b', o' + j, none⟩ = some (.int .i64 (T i j)) := by
  obtain ⟨A1, c1, e1, _⟩ := h.shape
  injection e1 with _ e1 _
  obtain ⟨b, o, u, hA, hb, hc, hu⟩ := h.at_ (k := i) (by rw [tabL_len]; exact hi)
  have hrow : (tabL T c)[i]'(by rw [tabL_len]; exact hi) = (List.range c).map (T i) := by simp [tabL]
  rw [hrow] at hu
  obtain ⟨A2, c2, rfl, _, _⟩ := hu.shape
  obtain ⟨b', o', hA2, _, hc2⟩ := hu.int (k := j) (by simp; exact hj)
  subst hA2
  refine ⟨b, o, b', o', c2, hA, by rw [e1, tabL_len], by simpa using hc, by simpa using hc2⟩
theorem row_spotB : Row Try.prog 23 47 ePair 16 := row_spot
set_option maxRecDepth 100000 in
set_option maxHeartbeats 8000000 in
theorem spotsB_any (T : Nat → Nat → Int) (n : Nat) (hn : n ≤ 20) (hT : TopsIn T n) (A1 A2 A3 : Option Addr) (N1 C1 N2 C2 N3 C3 : Nat) (g B : Nat) (hg : B ≤ g) (wB : World) (hwB : wB.heap.size ≤ B) (hR : RDS wB eInt (.slice A3 N3 C3) (tabL T (n + 1))) (m : Nat) :
    ∀ (i j : Nat) (d : Int) (acc : List IP) (w : World), j - i ≤ m → i ≤ j → j ≤ n → acc.length + (j - i) ≤ 100000 → 0 ≤ d → d + (m : Int) ≤ 1000 → Kp wB w → OB w B g 23 47 ePair acc → B ≤ w.heap.size →
    Calls Try.prog 26 #[.agg #[.slice A1 N1 C1, .slice A2 N2 C2, .slice A3 N3 C3], .int .i64 (i : Int), .int .i64 (j : Int), .int .i64 d, .pointer (some ⟨g, 0, none⟩)] w
      (WPost B g 23 47 ePair (.tuple #[]) (acc ++ spB T m i j d) w) := by
  induction m with
  | zero =>
    intro i j d acc w h1 h2 h3 h4 h5 h6 hk ho hB
    obtain rfl : i = j := by omega
    have HO := hide ho
    have kk : Kp w w := Kp.refl w
    clear ho hR hk
    go_enter Try.func26, Try.ntmps26
    go_wp2
    have h9 := HO.out
    obtain ⟨u, hb, hu, hn⟩ := HO.out
    exact bodyPost_ret (v := .tuple #[]) (by simp [results, Try.results26, go_sem]) rfl ⟨rfl, by rw [spB, List.append_nil]; exact h9.kp (Kp.refl _).alloc, (KO.refl (hb.cell 0)).on (Kp.refl _).alloc⟩
  | succ m ih =>
    intro i j d acc w h1 h2 h3 h4 h5 h6 hk ho hB
    by_cases hlt : i < j
    · have hne : ((i : Int) == (j : Int)) = false := beq_eq_false_iff_ne.2 (by omega)
      obtain ⟨r, hr1, hr2, hr3⟩ := hT i j hlt h3
      have HSP : Hid (spB T (m + 1) i j d = spB T m i r (d + 1) ++ [((r : Int), d)] ++ spB T m (r + 1) j (d + 1)) := hide (by rw [spB, if_pos hlt, hr3, Int.toNat_natCast])
      have HL1 := hide (spB_len hT m i r (d + 1) (by omega) hr1 (by omega))
      obtain ⟨bt, ot, bt', ot', Ct', hA, hN, c0, c1⟩ := tab_at hR (i := i) (j := j) (by omega) (by omega)
      rw [hr3] at c1
      subst hA hN
      have HC0 : Hid (∀ W, Kp wB W → W.cell? ⟨bt, ot + i, none⟩ = some (.slice (some ⟨bt', ot', none⟩) (n + 1) Ct') ∧ W.cell? ⟨bt', ot' + j, none⟩ = some (.int .i64 (r : Int))) := hide fun W k => ⟨k.cell c0, k.cell c1⟩
      have HIH := hide ih
      have HK := hide hk
      have HO := hide ho
      have s1 : IntKind.i64.wrap (d + 1) = d + 1 := IntWalk.i64_in _ (by omega)
      obtain ⟨r1, hr4⟩ : ∃ r1, r1 = r + 1 := ⟨_, rfl⟩
      have s2 : IntKind.i64.wrap ((r : Int) + 1) = (r1 : Int) := by rw [IntWalk.i64_in _ (by omega)]; omega
      obtain ⟨x0, x1⟩ := HC0.out (w.alloc (.cells #[.slice A1 N1 C1, .slice A2 N2 C2, .slice (some ⟨bt, ot, none⟩) (n + 1) C3] 56)) hk.alloc
      have hin : i < n + 1 := by omega
      have hjn : j < n + 1 := by omega
      have HH4 := hide h4
      have HR4 := hide hr4
      clear ih hk ho hR hr3 c0 c1 hr4
      go_enter Try.func26, Try.ntmps26
      go_wp2_with fail
      obtain ⟨W1, hW1⟩ : ∃ W1, W1 = w.alloc (.cells #[.slice A1 N1 C1, .slice A2 N2 C2, .slice (some ⟨bt, ot, none⟩) (n + 1) C3] 56) := ⟨_, rfl⟩
      have k01 : Kp w W1 := by rw [hW1]; exact (Kp.refl _).alloc
      have hbx : BC W1 w.heap.size 56 [.slice A1 N1 C1, .slice A2 N2 C2, .slice (some ⟨bt, ot, none⟩) (n + 1) C3] := by rw [hW1]; exact BC.new w _ [_, _, _]
      rw [← hW1]
      have HO1 := hide (HO.out.kp k01)
      have HBX := hide hbx
      have HK1 := hide (HK.out.trans k01)
      have HZ1 : Hid (B ≤ W1.heap.size) := hide (Nat.le_trans hB k01.size)
      have HGL : Hid (g < w.heap.size) := hide (by obtain ⟨_, hb, _⟩ := HO.out; exact hb.lt)
      have HKK := hide k01
      clear hW1 k01 hbx x0 x1
      refine (HIH.out i r (d + 1) acc W1 (by omega) hr1 (by omega) (by omega) (by omega) (by omega) HK1.out HO1.out HZ1.out).mono ?_
      rintro e w2 ⟨rfl, ho2, hk2⟩
      have HO2 := hide ho2
      have HK2 := hide (HO1.out.kp0 hk2 HK1.out hwB hg)
      have HKO2 := hide hk2
      have HBX2 := hide (HBX.out.ko HO1.out hk2 (by decide) (by decide))
      have HZ2 : Hid (B ≤ w2.heap.size) := hide (Nat.le_trans HZ1.out hk2.size)
      obtain ⟨acc2, hacc⟩ : ∃ a, a = acc ++ spB T m i r (d + 1) := ⟨_, rfl⟩
      have hal : acc2.length ≤ 200000 := by rw [hacc, List.length_append, HL1.out]; have := HH4.out; omega
      have HACC := hide hacc
      rw [← hacc] at HO2
      obtain ⟨u2, hb2, hu2, hn2⟩ := HO2.out
      obtain ⟨A5, N5, C5, rfl⟩ := hu2.rd.slice
      have HM1 : Hid ((acc2.length + [(((r : Int), d) : IP)].length) * 16 ≤ 140737488355328) := hide (by simp; omega)
      have HM2 : Hid (acc2.length + [(((r : Int), d) : IP)].length ≤ maxLen) := hide (by simp [maxLen]; omega)
      have HU2 := hide hu2
      have HB2 := hide hb2
      have HN2 := hide hn2
      have g0 : w2.cell? ⟨g, 0, none⟩ = some (.slice A5 N5 C5) := hb2.cell 0
      have hne2 : ¬ w.heap.size = g := by have := HGL.out; omega
      have hne3 : ¬ g = w.heap.size := by have := HGL.out; omega
      clear ho2 hk2 hacc hb2 hu2 hn2 hal
      go_wp2_with ((at_builtin; (with_reducible refine list_app (B := B) (l := acc2) (m := [(((r : Int), d) : IP)]) row_spotB (.slice A5 N5 C5) ?_ (.tmp 32) (.tmp 36) ?_ ?_ ?_ ?_ HM1.out HM2.out ?_ ?_); (with_reducible rfl); (with_reducible rfl); rfl; (exact HU2.out.alloc _); (show RD _ _ (.slice (some ⟨_, 0, none⟩) 1 1) _; (focus ((repeat (first | (with_reducible assumption) | exact RD.new1 _ rfl | (refine RD.new1e _ ?_ rfl; simp; done) | (with_reducible apply RD.alloc) | (with_reducible apply RD.drew) | (with_reducible apply RD.drewN) | ((with_reducible apply RD.belowR); (with_reducible assumption)))); done))); (have := HZ2.out; simp; omega); intro v3 w3 ho3 hg3 hat3; have k3 : KV (.slice A5 N5 C5) w2 w3 := KV.app hg3 (KV.refl _ _).alloc; have c3 := k3.cell HN2.out (HB2.out.cell 0); have f3 := (k3.frozen (p := ⟨g, 0, none⟩) HB2.out.lt HN2.out).trans (HB2.out.frozen 0); have hbx3 := HBX2.out.kf k3 (HU2.out.bc_ne HBX2.out (by decide)); have c50 := hbx3.cell 0; have c51 := hbx3.cell 1; have c52 := hbx3.cell 2; simp only [List.getElem?_cons_zero, List.getElem?_cons_succ] at c3 c50 c51 c52; obtain ⟨A9, N9, C9, rfl⟩ := ho3.rd.slice))
      have hat9 : (Value.slice A9 N9 C9).ownBlock = (Value.slice A5 N5 C5).ownBlock ∨ Hi w2.heap.size (Value.slice A9 N9 C9) := hat3.imp id (fun e => fun k hk => by rw [e] at hk; injection hk with hk; subst hk; simp <;> omega)
      obtain ⟨ho4, hk4⟩ := ob_app HB2.out HU2.out HN2.out k3 ho3 hat9
      have HO4 := hide ho4
      have HKO4 := hide hk4
      have HK4 := hide (HO2.out.kp0 hk4 HK2.out hwB hg)
      have HZ4 := hide (Nat.le_trans HZ2.out hk4.size)
      obtain ⟨W4, hW4⟩ : ∃ W4, W4 = w3.setCell ⟨g, 0, none⟩ (.slice A9 N9 C9) := ⟨_, rfl⟩
      rw [← hW4] at HO4 HKO4 HK4 HZ4 ⊢
      clear hat9 hat3 hg3 ho3 k3 c3 f3 hbx3 c50 c51 c52 ho4 hk4 hW4
      refine (HIH.out r1 j (d + 1) (acc2 ++ [((r : Int), d)]) W4 (by have := HR4.out; omega) (by have := HR4.out; omega) h3 (by have := HR4.out; have := HH4.out; rw [List.length_append, HACC.out, List.length_append, HL1.out]; simp; omega) (by omega) (by omega) HK4.out HO4.out HZ4.out).mono ?_
      rintro e w5 ⟨rfl, ho5, hk5⟩
      have HO5 := hide ho5
      have HKO5 := hide ((((HKO2.out.trans HKO4.out).trans hk5)).onL HKK.out HGL.out HO.out)
      clear ho5 hk5
      go_wp2
      exact bodyPost_ret (v := .tuple #[]) (by simp [results, Try.results26, go_sem]) rfl ⟨rfl, by rw [HSP.out, ← HR4.out]; have h := HO5.out; rw [HACC.out] at h; simpa [List.append_assoc] using h, HKO5.out⟩
    · have hne : ((i : Int) == (j : Int)) = true := by simp; omega
      have HSP : Hid (spB T (m + 1) i j d = []) := hide (by rw [spB, if_neg hlt])
      have HO := hide ho
      clear ho hR hk ih
      go_enter Try.func26, Try.ntmps26
      go_wp2
      have h9 := HO.out
      obtain ⟨u, hb, hu, hn⟩ := HO.out
      exact bodyPost_ret (v := .tuple #[]) (by simp [results, Try.results26, go_sem]) rfl ⟨rfl, by rw [HSP.out, List.append_nil]; exact h9.kp (Kp.refl _).alloc, (KO.refl (hb.cell 0)).on (Kp.refl _).alloc⟩
end Go.Proofs.Ytpmhpogkpkhbfaa
