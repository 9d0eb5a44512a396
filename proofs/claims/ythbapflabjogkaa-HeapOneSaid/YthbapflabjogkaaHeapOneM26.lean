/-
  slices.insertionSortCmpFunc at spots: what it leaves of a part of a row. Conditions: the row is the call's own (OW).
-/
import Derived.Test.YthbapflabjogkaaHeapOneM25
import Derived.Test.YthbapflabjogkaaHeapOneM12

namespace Go.Proofs.Ythbapflabjogkaa
open Go.ChangeShapes Go.WideShapes Go.ChangeAt Go.RowKit
set_option linter.unusedVariables false
set_option linter.unusedSimpArgs false

abbrev pv (p : IP) : Value := .agg #[.int .i64 p.1, .int .i64 p.2]
/-- What a step of the sort leaves: the part S' in the place, of which R holds. -/
def SgPost (B : Nat) (e : TypeId) (g N c : Nat) (P Q : List IP) (R : List IP → Prop) (w : World) (en : Ending) (w' : World) : Prop :=
  en = .returned (.tuple #[]) ∧ ∃ S', R S' ∧ OW w' B e ePair (.slice (some ⟨g, 0, none⟩) N c) (P ++ S' ++ Q) ∧ Kf (fun i => i = g) w w'
def Srt (key : IP → Int) (S S' : List IP) : Prop := SortedK key S' ∧ StabEq key S S' ∧ S'.length = S.length
section
variable {w : World} {B g n c : Nat} {e : TypeId} {l : List IP}
theorem OW.len (h : OW w B e ePair (.slice (some ⟨g, 0, none⟩) n c) l) : n = l.length := by
  obtain ⟨A, c', e1, _⟩ := h.rd.shape
  injection e1
theorem ld_pair (h : OW w B e ePair (.slice (some ⟨g, 0, none⟩) n c) l) {k : Nat} {x : IP} (hk : l[k]? = some x) : (Instr.loadAt 37 (.pointer (some ⟨g, k * 2, none⟩))).run Try.prog w = .ok (pv x) w := by
  obtain ⟨c0, c1, _, _⟩ := h.pairAt? hk
  go_simp
theorem st_pair (h : OW w B e ePair (.slice (some ⟨g, 0, none⟩) n c) l) {k : Nat} (hk : k < l.length) (y : IP) : (Instr.storeAt 37 (.pointer (some ⟨g, k * 2, none⟩)) (pv y)).run Try.prog w = .ok () (swW1 w g k y) := by
  obtain ⟨c0, c1, f0, f1⟩ := h.pairAt k hk
  unfold swW1
  go_simp
theorem ix_pair (n c g k : Nat) (hk : k < n) (W : World) : (Instr.indexAt 22 (.slice (some ⟨g, 0, none⟩) n c) (.int .i64 (k : Int))).run Try.prog W = .ok (.pointer (some ⟨g, k * 2, none⟩)) W := by
  have h1 : (k : Int) < (n : Int) := by omega
  have h0 : (0 : Int) ≤ (k : Int) := by omega
  go_simp
end
/-- The row with x put in. -/
theorem ins_round {key : IP → Int} {S T X Y : List IP} {k : Nat} (hk : k < S.length) (hT : Srt key (S.take k) T) (hXY : X ++ Y = T) (hY : ∀ y ∈ Y, key S[k] < key y) (hX : ∀ z, X.getLast? = some z → key z ≤ key S[k]) : Srt key (S.take (k + 1)) (X ++ S[k] :: Y) := by
  obtain ⟨h1, h2, h3⟩ := hT
  subst hXY
  obtain ⟨g1, g2⟩ := insert_law h1 hY hX
  refine ⟨g1, ?_, ?_⟩
  · rw [List.take_succ_eq_append_getElem hk]
    exact (h2.append (StabEq.refl [S[k]])).trans g2
  · rw [List.take_succ_eq_append_getElem hk]
    simp only [List.length_append, List.length_cons, List.length_nil] at h3 ⊢
    omega
/-- The key by which the pairs are sorted: the greatest Value comes first. -/
def nk (p : IP) : Int := -p.2
set_option maxRecDepth 100000 in
theorem ord_any (x y : IP) (w : World) : Calls Try.prog 21 #[pv x, pv y] w (Ret (.int .i64 (cmp3 (nk x) (nk y))) w) := by
  rcases Int.lt_trichotomy x.2 y.2 with h | h | h
  · have hc : Hid (cmp3 (nk x) (nk y) = 1) := hide (by unfold cmp3 nk; rw [if_neg (by omega), if_pos (by omega)])
    have d1 : decide (y.2 < x.2) = false := by simp; omega
    have d2 : decide (x.2 < y.2) = true := by simp; omega
    clear h
    go_enter Try.func21, Try.ntmps21
    go_wp2
    go_ret
    exact ⟨by rw [hc.out]; rfl, Kp.bel (by (focus ((repeat (first | (with_reducible assumption) | (with_reducible exact Kp.refl _) | (with_reducible apply Kp.drew) | (with_reducible apply Kp.drewN) | ((with_reducible apply Kp.setR); (focus (first | (with_reducible assumption) | (simp; done) | (simp; omega)))) | (with_reducible apply Kp.alloc) | ((with_reducible apply Kp.call); (with_reducible assumption)) | ((with_reducible apply Kp.app); (with_reducible assumption)))); done)))⟩
  · have hc : Hid (cmp3 (nk x) (nk y) = 0) := hide (by unfold cmp3 nk; rw [if_neg (by omega), if_neg (by omega)])
    have d1 : decide (y.2 < x.2) = false := by simp; omega
    have d2 : decide (x.2 < y.2) = false := by simp; omega
    clear h
    go_enter Try.func21, Try.ntmps21
    go_wp2
    go_ret
    exact ⟨by rw [hc.out]; rfl, Kp.bel (by (focus ((repeat (first | (with_reducible assumption) | (with_reducible exact Kp.refl _) | (with_reducible apply Kp.drew) | (with_reducible apply Kp.drewN) | ((with_reducible apply Kp.setR); (focus (first | (with_reducible assumption) | (simp; done) | (simp; omega)))) | (with_reducible apply Kp.alloc) | ((with_reducible apply Kp.call); (with_reducible assumption)) | ((with_reducible apply Kp.app); (with_reducible assumption)))); done)))⟩
  · have hc : Hid (cmp3 (nk x) (nk y) = -1) := hide (by unfold cmp3 nk; rw [if_pos (by omega)])
    have d1 : decide (y.2 < x.2) = true := by simp; omega
    clear h
    go_enter Try.func21, Try.ntmps21
    go_wp2
    go_ret
    exact ⟨by rw [hc.out]; rfl, Kp.bel (by (focus ((repeat (first | (with_reducible assumption) | (with_reducible exact Kp.refl _) | (with_reducible apply Kp.drew) | (with_reducible apply Kp.drewN) | ((with_reducible apply Kp.setR); (focus (first | (with_reducible assumption) | (simp; done) | (simp; omega)))) | (with_reducible apply Kp.alloc) | ((with_reducible apply Kp.call); (with_reducible assumption)) | ((with_reducible apply Kp.app); (with_reducible assumption)))); done)))⟩
def InR (key : IP → Int) (B : Nat) (e : TypeId) (g N c a b : Nat) (P S Q : List IP) (w : World) (iv : Value) (wr : World) : Prop :=
  ∃ (i : Nat) (T : List IP), iv = .int .i64 (i : Int) ∧ a + 1 ≤ i ∧ (i ≤ b ∨ i = a + 1) ∧ Srt key (S.take (i - a)) T ∧ OW wr B e ePair (.slice (some ⟨g, 0, none⟩) N c) (P ++ (T ++ S.drop (i - a)) ++ Q) ∧ Kf (fun k => k = g) w wr
def IjR (key : IP → Int) (B : Nat) (e : TypeId) (g N c a : Nat) (P T R : List IP) (x : IP) (w : World) (jv : Value) (wr : World) : Prop :=
  ∃ (j : Nat) (X Y : List IP), jv = .int .i64 (j : Int) ∧ a + X.length = j ∧ X ++ Y = T ∧ (∀ y ∈ Y, key x < key y) ∧ OW wr B e ePair (.slice (some ⟨g, 0, none⟩) N c) (P ++ (X ++ x :: Y) ++ R) ∧ Kf (fun k => k = g) w wr
set_option maxRecDepth 100000 in
set_option maxHeartbeats 8000000 in
theorem insSort_any (P S Q : List IP) (a b N c g B : Nat) (w : World) (ha : a = P.length) (hb : b = a + S.length) (hN : N = (P ++ S ++ Q).length) (hn : N ≤ 1000)
    (ho : OW w B 37 ePair (.slice (some ⟨g, 0, none⟩) N c) (P ++ S ++ Q)) :
    Calls Try.prog 42 #[.slice (some ⟨g, 0, none⟩) N c, .int .i64 (a : Int), .int .i64 (b : Int), .func (.func 21) #[] #[]] w (SgPost B 37 g N c P Q (Srt nk S) w) := by
  have hNl : N = P.length + S.length + Q.length := by rw [hN]; simp only [List.length_append]
  have HREL : Hid (InR nk B 37 g N c a b P S Q w (.int .i64 ((a + 1 : Nat) : Int)) w) := hide ⟨a + 1, S.take 1, rfl, by omega, .inr rfl, by
    rw [show a + 1 - a = 1 by omega]
    refine ⟨?_, StabEq.refl _, rfl⟩
    cases S with
    | nil => simp [SortedK]
    | cons x S => simp [SortedK], by rw [show a + 1 - a = 1 by omega, List.take_append_drop]; exact ho, Kf.refl _ _⟩
  have HA := hide ha
  have HB := hide hb
  have HN := hide hNl
  have w0 : IntKind.i64.wrap ((a : Int) + 1) = ((a + 1 : Nat) : Int) := by rw [IntWalk.i64_in _ (by omega)]; omega
  clear ho hN ha hb hNl
  go_enter Try.func42, Try.ntmps42
  go_wp2
  go_loopw [8] (InR nk B 37 g N c a b P S Q w) (fun iv _ => b - (intOf iv).toNat)
  case atStart => exact HREL.out
  case round =>
    clear HREL
    obtain ⟨i, T, rfl, hi1, hi2, hT, ho, hkf⟩ := hrel
    have HT := hide hT
    have HO := hide ho
    have HKF := hide hkf
    clear hT ho hkf
    by_cases hlt : i < b
    · have d0 : decide ((i : Int) < (b : Int)) = true := by simp; omega
      obtain ⟨x, hx⟩ : ∃ x, x = S[i - a]'(by have := HB.out; omega) := ⟨_, rfl⟩
      obtain ⟨R, hR⟩ : ∃ R, R = S.drop (i - a + 1) ++ Q := ⟨_, rfl⟩
      obtain ⟨wb, rfl⟩ : ∃ y, y = wr := ⟨_, rfl⟩
      have hTl : T.length = i - a := by rw [HT.out.2.2, List.length_take]; have := HB.out; omega
      have HRE2 : Hid (IjR nk B 37 g N c a P T R x w (.int .i64 (i : Int)) wb) := hide ⟨i, T, [], rfl, by omega, by simp, (fun y hy => by cases hy), by
        have h := HO.out
        rw [List.drop_eq_getElem_cons (show i - a < S.length by have := HB.out; omega), ← hx] at h
        rw [hR]
        simpa using h, HKF.out⟩
      have HX := hide hx
      have HR := hide hR
      have HTL := hide hTl
      clear hx hR hTl
      go_wp2
      go_loopw [9] (IjR nk B 37 g N c a P T R x w) (fun jv _ => (intOf jv).toNat)
      case atStart => exact HRE2.out
      case round =>
        clear HRE2
        obtain ⟨j, X, Y, rfl, hj, hXY, hY, ho, hkf⟩ := hrel
        have HXY := hide hXY
        have HY := hide hY
        have HO := hide ho
        have HKF := hide hkf
        clear hXY hY ho hkf
        have hjl : j = P.length + X.length := by have := HA.out; omega
        have hlen := HO.out.len
        have hjN : j < N := by rw [hlen]; simp; omega
        have HJL := hide hjl
        rcases List.eq_nil_or_concat X with rfl | ⟨X', z, hXz⟩
        · have d1 : decide (a < j) = false := by simp at hj ⊢; omega
          have HXL : Hid (∀ z, ([] : List IP).getLast? = some z → nk z ≤ nk x) := hide (fun z h => by cases h)
          have hRD := ins_round (S := S) (k := i - a) (by have := HB.out; omega) HT.out HXY.out (by rw [← HX.out]; exact HY.out) (by rw [← HX.out]; exact HXL.out)
          rw [← HX.out] at hRD
          have HRD := hide hRD
          have w1 : IntKind.i64.wrap ((i : Int) + 1) = ((i + 1 : Nat) : Int) := by rw [IntWalk.i64_in _ (by have := HA.out; have := HB.out; have := HN.out; omega)]; omega
          clear hRD
          clear hjl hlen hj
          go_wp2_with fail
          go_quiet (fail)
          go_wp2
          go_roundw
          case rel => exact ⟨i + 1, [] ++ x :: Y, by go_num, by omega, .inl (by omega), by rw [show i + 1 - a = i - a + 1 by omega]; exact HRD.out, by
            have h := HO.out.drewN nq
            rw [HR.out] at h
            rw [show i + 1 - a = i - a + 1 by omega]
            simpa using h, HKF.out.on (Kp.refl _).drewN⟩
          case measure => simp [intOf]; omega
        · rw [List.concat_eq_append] at hXz
          subst hXz
          obtain ⟨J1, hJ1⟩ : ∃ J1, J1 = j - 1 := ⟨_, rfl⟩
          have hL1 : P ++ (X' ++ [z] ++ x :: Y) ++ R = (P ++ X') ++ z :: x :: (Y ++ R) := by simp
          simp only [List.length_append, List.length_singleton] at hjl hj
          have hJl : J1 = (P ++ X').length := by simp; omega
          have HO2 : Hid (OW wr B 37 ePair (.slice (some ⟨g, 0, none⟩) N c) ((P ++ X') ++ z :: x :: (Y ++ R))) := hide (hL1 ▸ HO.out)
          have lenL : N = ((P ++ X') ++ z :: x :: (Y ++ R)).length := HO2.out.len
          have hjs : j = (P ++ X').length + 1 := by simp; omega
          have gx : ((P ++ X') ++ z :: x :: (Y ++ R))[j]? = some x := by rw [hjs]; exact (at_next _ _ _ _).2
          have gz : ((P ++ X') ++ z :: x :: (Y ++ R))[J1]? = some z := by rw [hJl]; exact (at_next _ _ _ _).1
          have px := HO2.out.pairAt? gx
          have pz := HO2.out.pairAt? gz
          obtain ⟨x0, x1, _, _⟩ := px
          obtain ⟨z0, z1, _, _⟩ := pz
          have d1 : decide (a < j) = true := by simp; omega
          have hj1 : IntKind.i64.wrap ((j : Int) - 1) = (J1 : Int) := by rw [IntWalk.i64_in _ (by omega)]; omega
          have i0 : (0 : Int) ≤ (j : Int) := by omega
          have i1 : (j : Int) < (N : Int) := by omega
          have i2 : (0 : Int) ≤ (J1 : Int) := by omega
          have i3 : (J1 : Int) < (N : Int) := by omega
          have HGX := hide gx
          have HGZ := hide gz
          have HLL := hide lenL
          have HJJ := hide hJl
          have HJS := hide hjs
          have HJ1 := hide hJ1
          have KS : Hid (∀ W', Kp wr W' → (W'.cell? ⟨g, j * 2, none⟩ = some (.int .i64 x.1) ∧ W'.cell? ⟨g, j * 2 + 1, none⟩ = some (.int .i64 x.2) ∧ W'.cell? ⟨g, J1 * 2, none⟩ = some (.int .i64 z.1) ∧ W'.cell? ⟨g, J1 * 2 + 1, none⟩ = some (.int .i64 z.2) ∧ Kp wr W')) := hide fun W' h => ⟨h.cell x0, h.cell x1, h.cell z0, h.cell z1, h⟩
          have KD0 := Kp.refl wr
          have KD1 := KD0.drew
          clear hL1 gx gz lenL hJl hJ1 hjl hlen hj hjN hjs
          by_cases hc : nk x < nk z
          · have t3 : decide (cmp3 (nk x) (nk z) < 0) = true := by rw [cmp3_neg]; exact decide_eq_true hc
            have t3' : ¬ 0 ≤ cmp3 (nk x) (nk z) := by have := of_decide_eq_true t3; omega
            have HC := hide hc
            clear hc
            go_wp2_with fail
            go_region_held3 (fun w' => w'.cell? ⟨g, j * 2, none⟩ = some (.int .i64 x.1) ∧ w'.cell? ⟨g, j * 2 + 1, none⟩ = some (.int .i64 x.2) ∧ w'.cell? ⟨g, J1 * 2, none⟩ = some (.int .i64 z.1) ∧ w'.cell? ⟨g, J1 * 2 + 1, none⟩ = some (.int .i64 z.2) ∧ Kp wr w') ((go_split_ands; refine KS.out _ ?_; (focus ((repeat (first | (with_reducible assumption) | (with_reducible exact Kp.refl _) | (with_reducible apply Kp.drew) | (with_reducible apply Kp.drewN) | ((with_reducible apply Kp.setR); (focus (first | (with_reducible assumption) | (simp; done) | (simp; omega)))) | (with_reducible apply Kp.alloc) | ((with_reducible apply Kp.call); (with_reducible assumption)) | ((with_reducible apply Kp.app); (with_reducible assumption)))); done))))
              (first
                | (go_at_call 21; refine (ord_any x z _).mono ?_; rintro e w5 ⟨rfl, hb5⟩))
            all_goals
              have k5 : Kp wr w5 := by go_split_ands; (focus ((repeat (first | (with_reducible assumption) | (with_reducible exact Kp.refl _) | (with_reducible apply Kp.drew) | (with_reducible apply Kp.drewN) | ((with_reducible apply Kp.setR); (focus (first | (with_reducible assumption) | (simp; done) | (simp; omega)))) | (with_reducible apply Kp.alloc) | ((with_reducible apply Kp.call); (with_reducible assumption)) | ((with_reducible apply Kp.app); (with_reducible assumption)))); done))
              have HO5 := hide (HO2.out.kp k5)
              have HKF5 := hide (HKF.out.on k5)
              clear KS KD0 KD1 x0 x1 z0 z1 k5 hb5
              go_wp2_with fail
              have hL := HLL.out
              have hgx := HGX.out
              have hgz := HGZ.out
              obtain ⟨W0, hW0⟩ : ∃ W0, W0 = w5.drew := ⟨_, rfl⟩
              have ho0 : OW W0 B 37 ePair (.slice (some ⟨g, 0, none⟩) N c) ((P ++ X') ++ z :: x :: (Y ++ R)) := by rw [hW0]; exact (HO5.out).drew
              have hof : Kf (fun k => k = g) w5 W0 := by rw [hW0]; exact Kf.of (Kp.refl _).drew
              have ho1 := ho0.setPair j (by have := ho0.len; omega) z
              have LDj := ld_pair ho0 (k := j) (x := x) (by assumption)
              have LDJ1 := ld_pair ho0 (k := J1) (x := z) (by assumption)
              have ST1 := st_pair ho0 (k := j) (by have := ho0.len; omega) z
              have ST2 := st_pair ho1 (k := J1) (by have := ho1.len; omega) x
              have Rj := ix_pair N c g j (by omega)
              have RJ1 := ix_pair N c g J1 (by omega)
              have HSW := hide (ho0.sw (i := j) (j := J1) (by have := ho0.len; omega) (by have := ho0.len; omega) x z)
              have HKW := hide (Kf.sw (Kf.sw hof (F := fun k => k = g) rfl j z) (F := fun k => k = g) rfl J1 x)
              refine wp_region_tab (by kernel_rfl) [(37, .slice (some ⟨g, 0, none⟩) N c), (38, .int .i64 (j : Int)), (39, .slice (some ⟨g, 0, none⟩) N c), (40, .int .i64 (j : Int)), (41, .int .i64 (J1 : Int)), (42, .slice (some ⟨g, 0, none⟩) N c), (43, .int .i64 (j : Int)), (44, .int .i64 (J1 : Int)), (45, .pointer (some ⟨g, J1 * 2, none⟩)), (46, (pv z)), (47, .slice (some ⟨g, 0, none⟩) N c), (48, .int .i64 (j : Int)), (49, .pointer (some ⟨g, j * 2, none⟩)), (50, (pv x)), (51, .pointer (some ⟨g, j * 2, none⟩)), (52, .pointer (some ⟨g, J1 * 2, none⟩))] (fun _ _ _ => True) (JS W0 (swW1 W0 g j z) (swW1 (swW1 W0 g j z) g J1 x) 15 17 9 13) (by rw [hW0]; exact JS.start (by decide) (by decide)) (by kernel_rfl) (by kernel_rfl) ?_ ?_
              · refine ⟨?_, ?_, ?_, ?_, ?_, ?_, ?_, ?_, ?_, ?_, ?_, ?_, ?_, ?_, ?_, ?_, ?_, ?_, trivial⟩
                · intro hop L a w5 hs hk hl ha keep know spec
                  have h0 := keep 0 (.slice (some ⟨g, 0, none⟩) N c) (by kernel_rfl) rfl
                  exact wpOp_value hop (wanted_none rfl) (v := .slice (some ⟨g, 0, none⟩) N c) (by simp only [execOp, Act.eval, h0]; rfl) ⟨_, rfl, hk.go (by decide) (by decide), (fun d hd => by injection hd with hd; subst hd; exact ⟨tab rfl, trivial⟩), fun _ _ h => h⟩
                · intro hop L a w5 hs hk hl ha keep know spec
                  have h9 := keep 9 (.int .i64 (j : Int)) (by kernel_rfl) rfl
                  exact wpOp_value hop (wanted_none rfl) (v := .int .i64 (j : Int)) (by simp only [execOp, Act.eval, h9]; rfl) ⟨_, rfl, hk.go (by decide) (by decide), (fun d hd => by injection hd with hd; subst hd; exact ⟨tab rfl, trivial⟩), fun _ _ h => h⟩
                · intro hop L a w5 hs hk hl ha keep know spec
                  have h0 := keep 0 (.slice (some ⟨g, 0, none⟩) N c) (by kernel_rfl) rfl
                  exact wpOp_value hop (wanted_none rfl) (v := .slice (some ⟨g, 0, none⟩) N c) (by simp only [execOp, Act.eval, h0]; rfl) ⟨_, rfl, hk.go (by decide) (by decide), (fun d hd => by injection hd with hd; subst hd; exact ⟨tab rfl, trivial⟩), fun _ _ h => h⟩
                · intro hop L a w5 hs hk hl ha keep know spec
                  have h9 := keep 9 (.int .i64 (j : Int)) (by kernel_rfl) rfl
                  exact wpOp_value hop (wanted_none rfl) (v := .int .i64 (j : Int)) (by simp only [execOp, Act.eval, h9]; rfl) ⟨_, rfl, hk.go (by decide) (by decide), (fun d hd => by injection hd with hd; subst hd; exact ⟨tab rfl, trivial⟩), fun _ _ h => h⟩
                · intro hop L a w5 hs hk hl ha keep know spec
                  have h40 := know 40 (.int .i64 (j : Int)) (by kernel_rfl) rfl
                  exact wpOp_value hop (wanted_none rfl) (v := .int .i64 (J1 : Int)) (by simp only [execOp, Act.eval, h40]; go_simp; done) ⟨_, rfl, hk.go (by decide) (by decide), (fun d hd => by injection hd with hd; subst hd; exact ⟨tab rfl, trivial⟩), fun _ _ h => h⟩
                · intro hop L a w5 hs hk hl ha keep know spec
                  have h0 := keep 0 (.slice (some ⟨g, 0, none⟩) N c) (by kernel_rfl) rfl
                  exact wpOp_value hop (wanted_none rfl) (v := .slice (some ⟨g, 0, none⟩) N c) (by simp only [execOp, Act.eval, h0]; rfl) ⟨_, rfl, hk.go (by decide) (by decide), (fun d hd => by injection hd with hd; subst hd; exact ⟨tab rfl, trivial⟩), fun _ _ h => h⟩
                · intro hop L a w5 hs hk hl ha keep know spec
                  have h9 := keep 9 (.int .i64 (j : Int)) (by kernel_rfl) rfl
                  exact wpOp_value hop (wanted_none rfl) (v := .int .i64 (j : Int)) (by simp only [execOp, Act.eval, h9]; rfl) ⟨_, rfl, hk.go (by decide) (by decide), (fun d hd => by injection hd with hd; subst hd; exact ⟨tab rfl, trivial⟩), fun _ _ h => h⟩
                · intro hop L a w5 hs hk hl ha keep know spec
                  have h43 := know 43 (.int .i64 (j : Int)) (by kernel_rfl) rfl
                  exact wpOp_value hop (wanted_none rfl) (v := .int .i64 (J1 : Int)) (by simp only [execOp, Act.eval, h43]; go_simp; done) ⟨_, rfl, hk.go (by decide) (by decide), (fun d hd => by injection hd with hd; subst hd; exact ⟨tab rfl, trivial⟩), fun _ _ h => h⟩
                · intro hop L a w5 hs hk hl ha keep know spec
                  have h42 := know 42 (.slice (some ⟨g, 0, none⟩) N c) (by kernel_rfl) rfl
                  have h44 := know 44 (.int .i64 (J1 : Int)) (by kernel_rfl) rfl
                  exact wpOp_value hop (wanted_none rfl) (v := .pointer (some ⟨g, J1 * 2, none⟩)) (by simp only [execOp, Act.eval, h42, h44]; exact run_v (RJ1 w5)) ⟨_, rfl, hk.go (by decide) (by decide), (fun d hd => by injection hd with hd; subst hd; exact ⟨tab rfl, trivial⟩), fun _ _ h => h⟩
                · intro hop L a w5 hs hk hl ha keep know spec
                  have h45 := know 45 (.pointer (some ⟨g, J1 * 2, none⟩)) (by kernel_rfl) rfl
                  have e5 := hk.ld1 hl
                  subst e5
                  exact wpOp_value hop (wanted_none rfl) (v := (pv z)) (by simp only [execOp, Act.eval, h45]; exact run_v LDJ1) ⟨_, rfl, hk.go (by decide) (by decide), (fun d hd => by injection hd with hd; subst hd; exact ⟨tab rfl, trivial⟩), fun _ _ h => h⟩
                · intro hop L a w5 hs hk hl ha keep know spec
                  have h0 := keep 0 (.slice (some ⟨g, 0, none⟩) N c) (by kernel_rfl) rfl
                  exact wpOp_value hop (wanted_none rfl) (v := .slice (some ⟨g, 0, none⟩) N c) (by simp only [execOp, Act.eval, h0]; rfl) ⟨_, rfl, hk.go (by decide) (by decide), (fun d hd => by injection hd with hd; subst hd; exact ⟨tab rfl, trivial⟩), fun _ _ h => h⟩
                · intro hop L a w5 hs hk hl ha keep know spec
                  have h9 := keep 9 (.int .i64 (j : Int)) (by kernel_rfl) rfl
                  exact wpOp_value hop (wanted_none rfl) (v := .int .i64 (j : Int)) (by simp only [execOp, Act.eval, h9]; rfl) ⟨_, rfl, hk.go (by decide) (by decide), (fun d hd => by injection hd with hd; subst hd; exact ⟨tab rfl, trivial⟩), fun _ _ h => h⟩
                · intro hop L a w5 hs hk hl ha keep know spec
                  have h47 := know 47 (.slice (some ⟨g, 0, none⟩) N c) (by kernel_rfl) rfl
                  have h48 := know 48 (.int .i64 (j : Int)) (by kernel_rfl) rfl
                  exact wpOp_value hop (wanted_none rfl) (v := .pointer (some ⟨g, j * 2, none⟩)) (by simp only [execOp, Act.eval, h47, h48]; exact run_v (Rj w5)) ⟨_, rfl, hk.go (by decide) (by decide), (fun d hd => by injection hd with hd; subst hd; exact ⟨tab rfl, trivial⟩), fun _ _ h => h⟩
                · intro hop L a w5 hs hk hl ha keep know spec
                  have h49 := know 49 (.pointer (some ⟨g, j * 2, none⟩)) (by kernel_rfl) rfl
                  have e5 := hk.ld2 hl
                  subst e5
                  exact wpOp_value hop (wanted_none rfl) (v := (pv x)) (by simp only [execOp, Act.eval, h49]; exact run_v LDj) ⟨_, rfl, hk.go (by decide) (by decide), (fun d hd => by injection hd with hd; subst hd; exact ⟨tab rfl, trivial⟩), fun _ _ h => h⟩
                · intro hop L a w5 hs hk hl ha keep know spec
                  have h37 := know 37 (.slice (some ⟨g, 0, none⟩) N c) (by kernel_rfl) rfl
                  have h38 := know 38 (.int .i64 (j : Int)) (by kernel_rfl) rfl
                  exact wpOp_value hop (wanted_none rfl) (v := .pointer (some ⟨g, j * 2, none⟩)) (by simp only [execOp, Act.eval, h37, h38]; exact run_v (Rj w5)) ⟨_, rfl, hk.go (by decide) (by decide), (fun d hd => by injection hd with hd; subst hd; exact ⟨tab rfl, trivial⟩), fun _ _ h => h⟩
                · intro hop L a w5 hs hk hl ha keep know spec
                  have h51 := know 51 (.pointer (some ⟨g, j * 2, none⟩)) (by kernel_rfl) rfl
                  have h46 := know 46 ((pv z)) (by kernel_rfl) rfl
                  obtain ⟨e5, hk2⟩ := hk.st1 hl (after_done ha (k := 9) (by kernel_rfl)) (after_done ha (k := 13) (by kernel_rfl)) (by decide)
                  subst e5
                  exact wpOp_skip hop (wanted_none rfl) (by simp only [execOp, Act.eval, h51, h46]; exact run_u ST1) ⟨_, rfl, hk2, (fun d hd => by cases hd), fun _ _ h => h⟩
                · intro hop L a w5 hs hk hl ha keep know spec
                  have h39 := know 39 (.slice (some ⟨g, 0, none⟩) N c) (by kernel_rfl) rfl
                  have h41 := know 41 (.int .i64 (J1 : Int)) (by kernel_rfl) rfl
                  exact wpOp_value hop (wanted_none rfl) (v := .pointer (some ⟨g, J1 * 2, none⟩)) (by simp only [execOp, Act.eval, h39, h41]; exact run_v (RJ1 w5)) ⟨_, rfl, hk.go (by decide) (by decide), (fun d hd => by injection hd with hd; subst hd; exact ⟨tab rfl, trivial⟩), fun _ _ h => h⟩
                · intro hop L a w5 hs hk hl ha keep know spec
                  have h52 := know 52 (.pointer (some ⟨g, J1 * 2, none⟩)) (by kernel_rfl) rfl
                  have h50 := know 50 ((pv x)) (by kernel_rfl) rfl
                  obtain ⟨e5, hk2⟩ := hk.st2 hl (after_done ha (k := 15) (by kernel_rfl))
                  subst e5
                  exact wpOp_skip hop (wanted_none rfl) (by simp only [execOp, Act.eval, h52, h50]; exact run_u ST2) ⟨_, rfl, hk2, (fun d hd => by cases hd), fun _ _ h => h⟩
              · intro a' w6 e1 e2 hk keep know spec
                obtain ⟨tm, df⟩ := a'
                obtain ⟨f, hf⟩ := frame_puts (D := [37, 38, 39, 40, 41, 42, 43, 44, 45, 46, 47, 48, 49, 50, 51, 52]) e2 keep
                have e1' : df = [] := e1
                have e6 := hk.done (n := 18) (by decide) (by decide)
                clear keep know spec e1 e2 hk
                simp only [List.foldl_cons, List.foldl_nil] at hf
                subst e1'
                subst e6
                rw [hf]
                clear hf
                have HNX := hide (sw_next (P ++ X') z x (Y ++ R) j J1 HJS.out HJJ.out)
                have HCC := hide (fun y hy => by
                  rcases List.mem_cons.1 hy with rfl | hy
                  · exact HC.out
                  · exact HY.out y hy : ∀ y ∈ z :: Y, nk x < nk y)
                clear LDj LDJ1 ST1 ST2 Rj RJ1 ho0 ho1 hof hL hgx hgz hW0
                go_wp2
                go_roundw
                case rel => exact ⟨J1, X', z :: Y, rfl, by have h9 := HJJ.out; simp at h9; have := HA.out; omega, by rw [← HXY.out]; simp, HCC.out, by
                  have h := HSW.out
                  rw [HNX.out] at h
                  simpa using h, HKF5.out.trans HKW.out (fun _ _ h => h)⟩
                case measure => have := HJ1.out; have := HJS.out; simp [intOf]; omega
          · have t3 : decide (cmp3 (nk x) (nk z) < 0) = false := by rw [cmp3_neg]; exact decide_eq_false hc
            have t3' : 0 ≤ cmp3 (nk x) (nk z) := by have := of_decide_eq_false t3; omega
            have HXL : Hid (∀ y, (X' ++ [z]).getLast? = some y → nk y ≤ nk x) := hide (fun y h => by simp at h; subst h; omega)
            have hRD := ins_round (S := S) (k := i - a) (by have := HB.out; omega) HT.out HXY.out (by rw [← HX.out]; exact HY.out) (by rw [← HX.out]; exact HXL.out)
            rw [← HX.out] at hRD
            have HRD := hide hRD
            have w1 : IntKind.i64.wrap ((i : Int) + 1) = ((i + 1 : Nat) : Int) := by rw [IntWalk.i64_in _ (by have := HA.out; have := HB.out; have := HN.out; omega)]; omega
            clear hRD
            clear hc
            go_wp2_with fail
            go_region_held3 (fun w' => w'.cell? ⟨g, j * 2, none⟩ = some (.int .i64 x.1) ∧ w'.cell? ⟨g, j * 2 + 1, none⟩ = some (.int .i64 x.2) ∧ w'.cell? ⟨g, J1 * 2, none⟩ = some (.int .i64 z.1) ∧ w'.cell? ⟨g, J1 * 2 + 1, none⟩ = some (.int .i64 z.2) ∧ Kp wr w') ((go_split_ands; refine KS.out _ ?_; (focus ((repeat (first | (with_reducible assumption) | (with_reducible exact Kp.refl _) | (with_reducible apply Kp.drew) | (with_reducible apply Kp.drewN) | ((with_reducible apply Kp.setR); (focus (first | (with_reducible assumption) | (simp; done) | (simp; omega)))) | (with_reducible apply Kp.alloc) | ((with_reducible apply Kp.call); (with_reducible assumption)) | ((with_reducible apply Kp.app); (with_reducible assumption)))); done))))
              (first
                | (go_at_call 21; refine (ord_any x z _).mono ?_; rintro e w5 ⟨rfl, hb5⟩))
            all_goals
              have k5 : Kp wr w5 := by go_split_ands; (focus ((repeat (first | (with_reducible assumption) | (with_reducible exact Kp.refl _) | (with_reducible apply Kp.drew) | (with_reducible apply Kp.drewN) | ((with_reducible apply Kp.setR); (focus (first | (with_reducible assumption) | (simp; done) | (simp; omega)))) | (with_reducible apply Kp.alloc) | ((with_reducible apply Kp.call); (with_reducible assumption)) | ((with_reducible apply Kp.app); (with_reducible assumption)))); done))
              have HO5 := hide (HO2.out.kp k5)
              have HKF5 := hide (HKF.out.on k5)
              clear KS KD0 KD1 x0 x1 z0 z1 k5 hb5
              go_wp2
              go_roundw
              case rel => exact ⟨i + 1, (X' ++ [z]) ++ x :: Y, by go_num, by omega, .inl (by omega), by rw [show i + 1 - a = i - a + 1 by omega]; exact HRD.out, by
                have h := HO5.out
                rw [HR.out] at h
                rw [show i + 1 - a = i - a + 1 by omega]
                simpa using h, HKF5.out⟩
              case measure => simp [intOf]; omega
    · have hTT : Hid (Srt nk S T ∧ S.drop (i - a) = []) := hide (by
        have hl : S.length ≤ i - a := by have := HB.out; omega
        have := HT.out
        rw [List.take_of_length_le hl] at this
        exact ⟨this, List.drop_of_length_le hl⟩)
      have d0 : decide ((i : Int) < (b : Int)) = false := by simp; omega
      go_wp2
      exact bodyPost_ret (v := .tuple #[]) (by simp [results, Try.results42, go_sem]) rfl ⟨rfl, T, hTT.out.1, by have h := HO.out; rw [hTT.out.2, List.append_nil] at h; exact h, HKF.out⟩
end Go.Proofs.Ythbapflabjogkaa
