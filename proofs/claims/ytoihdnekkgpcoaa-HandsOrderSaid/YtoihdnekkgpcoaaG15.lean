/-
  hands.within and hands.right: what they answer. Conditions: the lists read as they are named (RD, RDS).
  How the table is made, block by block: beads, hands; the table at the beginning of a run. Conditions: as each theorem says.
-/
import Derived.Test.YtoihdnekkgpcoaaG6
import Derived.Test.YtoihdnekkgpcoaaG4
import Derived.Test.YtoihdnekkgpcoaaG5
import Derived.Test.YtoihdnekkgpcoaaG14

namespace Go.Proofs.Ytoihdnekkgpcoaa
open Go.ChangeShapes Go.WideShapes Go.ChangeAt Go.RowKit
set_option linter.unusedVariables false
set_option linter.unusedSimpArgs false

def hbt (n lo hi : Int) : Bool := decide (lo ≤ n) && decide (n ≤ hi)
theorem hbt_t {n lo hi : Int} (h : lo ≤ n ∧ n ≤ hi) : hbt n lo hi = true := by simp [hbt, h]
theorem hbt_f {n lo hi : Int} (h : ¬ (lo ≤ n ∧ n ≤ hi)) : hbt n lo hi = false := by
  unfold hbt
  by_cases h1 : lo ≤ n
  · have : ¬ n ≤ hi := fun h2 => h ⟨h1, h2⟩
    simp [this]
  · simp [h1]
def kyOk (l : List Int) (k : Nat) : Prop := ∀ i, i < k → (0 ≤ l.getD i 0 ∧ l.getD i 0 ≤ 9) ∧ (0 < i → l.getD (i - 1) 0 < l.getD i 0)
def dsOk (P : List (List Dd)) : Prop := ∀ p ∈ P, ∀ d ∈ p, okD d
open Classical in
noncomputable def rgF (algo : Int) (l : List Int) (P : List (List Dd)) (n : Nat) : Int :=
  if ¬ (1 ≤ algo ∧ algo ≤ 4) then 1 else if P.length > 4 ∨ n > 500 ∨ ¬ (∀ p ∈ P, p.length ≤ 4) then 2 else if kyOk l l.length ∧ dsOk P then 0 else 3
theorem kyOk_step {l : List Int} {k : Nat} (h : kyOk l k) (h1 : 0 ≤ l.getD k 0 ∧ l.getD k 0 ≤ 9) (h2 : 0 < k → l.getD (k - 1) 0 < l.getD k 0) : kyOk l (k + 1) := by
  intro i hi
  by_cases e : i = k
  · subst e; exact ⟨h1, h2⟩
  · exact h i (by omega)
theorem take_step {α : Type} {Q : α → Prop} {l : List α} {j : Nat} (h : j < l.length) (h1 : ∀ x ∈ l.take j, Q x) (h2 : Q l[j]) : ∀ x ∈ l.take (j + 1), Q x := by
  intro x hx
  rw [List.take_succ_eq_append_getElem h] at hx
  rcases List.mem_append.1 hx with hx | hx
  · exact h1 x hx
  · rw [List.mem_singleton] at hx; rw [hx]; exact h2
theorem rgF_ok {algo : Int} {l : List Int} {P : List (List Dd)} {n : Nat} (h : rgF algo l P n = 0) : (1 ≤ algo ∧ algo ≤ 4) ∧ n ≤ 500 ∧ OkIn l P := by
  unfold rgF at h
  split at h
  · cases h
  · rename_i h1
    split at h
    · cases h
    · rename_i h2
      split at h
      · rename_i h3
        have h1 : 1 ≤ algo ∧ algo ≤ 4 := Classical.byContradiction fun hh => h1 hh
        have h4 : ∀ p ∈ P, p.length ≤ 4 := Classical.byContradiction fun hh => h2 (.inr (.inr hh))
        have hg : ∀ i (hi : i < l.length), l.getD i 0 = l[i] := fun i hi => by simp [List.getD_eq_getElem?_getD, hi]
        refine ⟨h1, by omega, ⟨fun x hx => ?_, ?_, by omega, h4, h3.2⟩⟩
        · obtain ⟨i, hi, rfl⟩ := List.mem_iff_getElem.1 hx
          have := (h3.1 i hi).1
          rwa [hg i hi] at this
        · rw [List.pairwise_iff_getElem]
          intro i j hi hj hij
          have key : ∀ d, ∀ (hd : i + 1 + d < l.length), l[i] < l[i + 1 + d] := by
            intro d
            induction d with
            | zero =>
              intro hd
              have := (h3.1 (i + 1) hd).2 (by omega)
              rw [hg _ hd, show i + 1 - 1 = i from rfl, hg i hi] at this
              exact this
            | succ d ih =>
              intro hd
              have h5 := ih (by omega)
              have := (h3.1 (i + 1 + (d + 1)) hd).2 (by omega)
              rw [hg _ hd, show i + 1 + (d + 1) - 1 = i + 1 + d from rfl, hg _ (by omega)] at this
              exact Int.lt_trans h5 this
          obtain ⟨d, rfl⟩ := Nat.exists_eq_add_of_le (show i + 1 ≤ j from hij)
          exact key d hj
      · cases h
theorem RD.deed {w : World} {A : Option Addr} {n c : Nat} {l : List Dd} (h : RD w eDeed (.slice A n c) l) {k : Nat} (hk : k < l.length) :
    ∃ b o, A = some ⟨b, o, none⟩ ∧ b < w.heap.size ∧ w.cell? ⟨b, o + k * 2, none⟩ = some (.int .i64 l[k].kind) ∧ w.cell? ⟨b, o + k * 2 + 1, none⟩ = some (.int .i64 l[k].key) := by
  obtain ⟨b, o, rfl, hb, hc⟩ := h.at_ hk
  exact ⟨b, o, rfl, hb, hc 0 (by decide), hc 1 (by decide)⟩
theorem hwithin_any (n lo hi : Int) (w : World) :
    Calls Try.prog 17 #[.int .i64 n, .int .i64 lo, .int .i64 hi] w fun e w' => e = .returned (.bool (hbt n lo hi)) ∧ w = w' := by
  by_cases h1 : lo ≤ n
  · by_cases h2 : n ≤ hi
    · go_enter Try.func17, Try.ntmps17
      go_wp2
      go_ret
      exact ⟨by simp [hbt]; omega, rfl⟩
    · go_enter Try.func17, Try.ntmps17
      go_wp2
      go_ret
      exact ⟨by simp [hbt]; omega, rfl⟩
  · go_enter Try.func17, Try.ntmps17
    go_wp2
    go_ret
    exact ⟨by simp [hbt]; omega, rfl⟩
def RgA (P : List (List Dd)) (w : World) (iv : Value) (wr : World) : Prop := ∃ k : Nat, k ≤ P.length ∧ iv = .int .i64 k ∧ (∀ p ∈ P.take k, p.length ≤ 4) ∧ w = wr
def RgB (l : List Int) (w : World) (iv : Value) (wr : World) : Prop := ∃ k : Nat, k ≤ l.length ∧ iv = .int .i64 k ∧ kyOk l k ∧ w = wr
def RgC (P : List (List Dd)) (w : World) (iv : Value) (wr : World) : Prop := ∃ k : Nat, k ≤ P.length ∧ iv = .int .i64 k ∧ dsOk (P.take k) ∧ Kp w wr
def RgD (p : List Dd) (w : World) (iv : Value) (wr : World) : Prop := ∃ k : Nat, k ≤ p.length ∧ iv = .int .i64 k ∧ (∀ d ∈ p.take k, okD d) ∧ Kp w wr
set_option maxRecDepth 100000 in
set_option maxHeartbeats 8000000 in
theorem hright_any (algo : Int) (l : List Int) (P : List (List Dd)) (o : List Int) (vl vp vo : Value) (w : World) (hl : RD w eInt vl l) (hp : RDS w eDeed vp P) (ho : RD w eInt vo o) :
    Calls Try.prog 16 #[.int .i64 algo, vl, vp, vo] w (fun e w' => e = .returned (.int .i64 (rgF algo l P o.length)) ∧ Kp w w') := by
  obtain ⟨A1, c1, rfl, hc1, _⟩ := hl.shape
  obtain ⟨A2, c2, rfl, hc2, _⟩ := hp.shape
  obtain ⟨A3, c3, rfl, hc3, _⟩ := ho.shape
  have HL := hide hl
  have HP := hide hp
  have HX1 : Hid (l.length < 9223372036854775807 + 1 ∧ P.length < 9223372036854775807 + 1) := hide (by omega)
  clear hl hp ho
  by_cases ha : ¬ (1 ≤ algo ∧ algo ≤ 4)
  · have HE : Hid (rgF algo l P o.length = 1) := hide (by unfold rgF; rw [if_pos ha])
    have HB := hide (hbt_f ha)
    clear ha
    go_enter Try.func16, Try.ntmps16
    go_wp2_with fail
    refine (hwithin_any algo 1 4 _).mono ?_
    rintro e w1 ⟨rfl, rfl⟩
    rw [HB.out]
    go_wp2
    go_ret
    exact ⟨by rw [HE.out]; rfl, Kp.refl _⟩
  have ha' : 1 ≤ algo ∧ algo ≤ 4 := Classical.byContradiction ha
  have HB := hide (hbt_t ha')
  by_cases h4 : P.length > 4 ∨ o.length > 500
  · have HE : Hid (rgF algo l P o.length = 2) := hide (by unfold rgF; rw [if_neg ha, if_pos (h4.elim .inl fun h => .inr (.inl h))])
    clear ha ha'
    go_enter Try.func16, Try.ntmps16
    go_wp2_with fail
    refine (hwithin_any algo 1 4 _).mono ?_
    rintro e w1 ⟨rfl, rfl⟩
    rw [HB.out]
    by_cases h5 : P.length > 4
    · have d1 : decide ((4 : Int) < (P.length : Int)) = true := decide_eq_true (by omega)
      clear h4 h5
      go_wp2
      go_ret
      exact ⟨by rw [HE.out]; rfl, Kp.refl _⟩
    · have d1 : decide ((4 : Int) < (P.length : Int)) = false := decide_eq_false (by omega)
      have d2 : decide ((500 : Int) < (o.length : Int)) = true := decide_eq_true (by omega)
      clear h4 h5
      go_wp2
      go_ret
      exact ⟨by rw [HE.out]; rfl, Kp.refl _⟩
  have d1 : decide ((4 : Int) < (P.length : Int)) = false := decide_eq_false (by omega)
  have d2 : decide ((500 : Int) < (o.length : Int)) = false := decide_eq_false (by omega)
  have HE2 : Hid (¬ (∀ p ∈ P, p.length ≤ 4) → rgF algo l P o.length = 2) := hide (fun h => by unfold rgF; rw [if_neg ha, if_pos (.inr (.inr h))])
  have HE3 : Hid ((∀ p ∈ P, p.length ≤ 4) → ¬ (kyOk l l.length ∧ dsOk P) → rgF algo l P o.length = 3) := hide (fun h h' => by unfold rgF; rw [if_neg ha, if_neg (fun hh => by rcases hh with hh | hh | hh; exact h4 (.inl hh); exact h4 (.inr hh); exact hh h), if_neg h'])
  have HE0 : Hid ((∀ p ∈ P, p.length ≤ 4) → (kyOk l l.length ∧ dsOk P) → rgF algo l P o.length = 0) := hide (fun h h' => by unfold rgF; rw [if_neg ha, if_neg (fun hh => by rcases hh with hh | hh | hh; exact h4 (.inl hh); exact h4 (.inr hh); exact hh h), if_pos h'])
  obtain ⟨RF, hRF⟩ : ∃ RF, RF = rgF algo l P o.length := ⟨_, rfl⟩
  rw [← hRF] at HE2 HE3 HE0 ⊢
  clear ha ha' h4 hRF
  go_enter Try.func16, Try.ntmps16
  go_wp2_with fail
  refine (hwithin_any algo 1 4 _).mono ?_
  rintro e w1 ⟨rfl, rfl⟩
  rw [HB.out]
  go_wp2
  clear d1 d2
  go_loopw [30] (RgA P w) (fun k _ => P.length - (intOf k).toNat)
  case atStart => exact ⟨0, by omega, rfl, by simp, rfl⟩
  case round =>
    obtain ⟨k, hk, rfl, hin, rfl⟩ := hrel
    have HI := hide hin
    clear hin
    by_cases hlt : k < P.length
    · obtain ⟨b, oo, u, e, _, c0, hu⟩ := HP.out.at_ hlt
      cases e
      obtain ⟨A4, c4, rfl, _, _⟩ := hu.shape
      by_cases h4 : P[k].length ≤ 4
      · have HS := hide (take_step (Q := fun p => p.length ≤ 4) hlt HI.out h4)
        have d3 : decide ((4 : Int) < (P[k].length : Int)) = false := decide_eq_false (by omega)
        obtain ⟨x, hx⟩ : ∃ x, x = P[k].length := ⟨_, rfl⟩
        rw [← hx] at c0 d3
        clear hu hx h4
        go_wp2
        go_roundw
        case rel => exact ⟨k + 1, by omega, by go_num, HS.out, rfl⟩
        case measure => simp [intOf]; omega
      · have HS : Hid (RF = 2) := hide (HE2.out (fun h => h4 (h _ (List.getElem_mem hlt))))
        have d3 : decide ((4 : Int) < (P[k].length : Int)) = true := decide_eq_true (by omega)
        obtain ⟨x, hx⟩ : ∃ x, x = P[k].length := ⟨_, rfl⟩
        rw [← hx] at c0 d3
        clear hu hx h4
        go_wp2
        go_ret
        exact ⟨by rw [HS.out]; rfl, Kp.refl _⟩
    · have HP4 : Hid (∀ p ∈ P, p.length ≤ 4) := hide (by have := HI.out; rwa [List.take_of_length_le (by omega)] at this)
      go_wp2
      go_loopw [40] (RgB l w) (fun k _ => l.length - (intOf k).toNat)
      case atStart => exact ⟨0, by omega, rfl, fun i hi => by omega, rfl⟩
      case round =>
        obtain ⟨j, hj, rfl, hin, rfl⟩ := hrel
        have HJ := hide hin
        clear hin
        by_cases hjl : j < l.length
        · obtain ⟨b, oo, e, _, c0⟩ := HL.out.int hjl
          cases e
          have hgd : l.getD j 0 = l[j] := by simp [List.getD_eq_getElem?_getD, hjl]
          obtain ⟨x, hx⟩ : ∃ x, x = l[j] := ⟨_, rfl⟩
          rw [← hx] at c0 hgd
          by_cases h9 : 0 ≤ x ∧ x ≤ 9
          · have HB9 := hide (hbt_t h9)
            by_cases hj0 : 0 < j
            · obtain ⟨_, _, e, _, c5⟩ := HL.out.int (show j - 1 < l.length by omega)
              cases e
              have hgd2 : l.getD (j - 1) 0 = l[j - 1] := by simp [List.getD_eq_getElem?_getD, show j - 1 < l.length by omega]
              obtain ⟨y, hy⟩ : ∃ y, y = l[j - 1]'(show j - 1 < l.length by omega) := ⟨_, rfl⟩
              rw [← hy] at c5 hgd2
              have s5 : IntKind.i64.wrap ((j : Int) - 1) = ((j - 1 : Nat) : Int) := by rw [IntWalk.i64_in _ (by omega)]; omega
              have l5 : ((j - 1 : Nat) : Int) < (l.length : Int) := by omega
              have p5 : (0 : Int) < (j : Int) := by omega
              by_cases hxy : y < x
              · have HS := hide (kyOk_step HJ.out (by rw [hgd]; exact h9) (fun _ => by rw [hgd, hgd2]; exact hxy))
                have d5 : decide (x ≤ y) = false := decide_eq_false (by omega)
                have HLT := hide hjl
                clear hx hy hgd hgd2 h9 hxy
                go_wp2_with fail
                refine (hwithin_any x 0 9 _).mono ?_
                rintro e w2 ⟨rfl, rfl⟩
                rw [HB9.out]
                go_wp2
                go_roundw
                case rel => exact ⟨j + 1, by omega, by go_num, HS.out, rfl⟩
                case measure => simp [intOf]; omega
              · have HS : Hid (RF = 3) := hide (HE3.out HP4.out (fun h => hxy (by have := (h.1 j hjl).2 hj0; rwa [hgd, hgd2] at this)))
                have d5 : decide (x ≤ y) = true := decide_eq_true (by omega)
                clear hx hy hgd hgd2 h9 hxy
                go_wp2_with fail
                refine (hwithin_any x 0 9 _).mono ?_
                rintro e w2 ⟨rfl, rfl⟩
                rw [HB9.out]
                go_wp2
                go_ret
                exact ⟨by rw [HS.out]; rfl, Kp.refl _⟩
            · have HS := hide (kyOk_step HJ.out (by rw [hgd]; exact h9) (fun h => absurd h hj0))
              have p5 : ¬ (0 : Int) < (j : Int) := by omega
              clear hx hgd h9
              go_wp2_with fail
              refine (hwithin_any x 0 9 _).mono ?_
              rintro e w2 ⟨rfl, rfl⟩
              rw [HB9.out]
              go_wp2
              go_roundw
              case rel => exact ⟨j + 1, by omega, by go_num, HS.out, rfl⟩
              case measure => simp [intOf]; omega
          · have HB9 := hide (hbt_f h9)
            have HS : Hid (RF = 3) := hide (HE3.out HP4.out (fun h => h9 (by have := (h.1 j hjl).1; rwa [hgd] at this)))
            clear hx hgd h9
            go_wp2_with fail
            refine (hwithin_any x 0 9 _).mono ?_
            rintro e w2 ⟨rfl, rfl⟩
            rw [HB9.out]
            go_wp2
            go_ret
            exact ⟨by rw [HS.out]; rfl, Kp.refl _⟩
        · have HKL : Hid (kyOk l l.length) := hide (by have := HJ.out; rwa [show j = l.length by omega] at this)
          go_wp2
          go_loopw [64] (RgC P w) (fun k _ => P.length - (intOf k).toNat)
          case atStart => exact ⟨0, by omega, rfl, fun p hp => by simp at hp, Kp.refl _⟩
          case round =>
            obtain ⟨k, hk, rfl, hin, hkp⟩ := hrel
            have HI := hide hin
            clear hin
            by_cases hlt : k < P.length
            · obtain ⟨b, oo, u, e, _, c0, hu⟩ := (HP.out.kp hkp).at_ hlt
              cases e
              obtain ⟨A4, c4, rfl, hq4, _⟩ := hu.shape
              have HU := hide hu
              have HLT := hide hlt
              have HKP := hide hkp
              have HS1 := hide (fun h => take_step (Q := fun p => ∀ d ∈ p, okD d) hlt HI.out h)
              have HS2 : Hid (¬ (∀ d ∈ P[k]'hlt, okD d) → RF = 3) := hide (fun hh => HE3.out HP4.out (fun h => hh (h.2 _ (List.getElem_mem hlt))))
              obtain ⟨p, hpe⟩ : ∃ p, p = P[k]'hlt := ⟨_, rfl⟩
              rw [← hpe] at c0 HU HS1 HS2 hq4
              clear hpe hu
              go_wp2
              go_loopw [70] (RgD p wr) (fun k _ => p.length - (intOf k).toNat)
              case atStart => exact ⟨0, by omega, rfl, fun p hp => by simp at hp, Kp.refl _⟩
              case round =>
                obtain ⟨j, hj, rfl, hin, hkp2⟩ := hrel
                have HJ := hide hin
                clear hin
                have hkk := HKP.out.trans hkp2
                by_cases hjl : j < p.length
                · obtain ⟨b4, o4, e, _, x0, x1⟩ := (HU.out.kp hkp2).deed hjl
                  cases e
                  have HKK := hide hkk
                  have HK2 := hide hkp2
                  have HS3 := hide (fun h => take_step (Q := okD) hjl HJ.out h)
                  have HS4 : Hid (¬ okD (p[j]'hjl) → RF = 3) := hide (fun hh => HS2.out (fun h => hh (h _ (List.getElem_mem hjl))))
                  obtain ⟨d, hd⟩ : ∃ d, d = p[j]'hjl := ⟨_, rfl⟩
                  rw [← hd] at x0 x1 HS3 HS4
                  obtain ⟨kd, ky⟩ := d
                  simp only at x0 x1
                  clear hd hkk hkp2
                  by_cases hkd : 1 ≤ kd ∧ kd ≤ 3
                  · have HB1 := hide (hbt_t hkd)
                    by_cases hky : 0 ≤ ky ∧ ky ≤ 9
                    · have HB2 := hide (hbt_t hky)
                      have HOK := hide (HS3.out ⟨hky.1, hky.2, by show kd = 1 ∨ kd = 2 ∨ kd = 3; omega⟩)
                      clear hkd hky
                      go_wp2_with fail
                      refine (hwithin_any kd 1 3 _).mono ?_
                      rintro e w2 ⟨rfl, rfl⟩
                      rw [HB1.out]
                      go_wp2_with fail
                      refine (hwithin_any ky 0 9 _).mono ?_
                      rintro e w2 ⟨rfl, rfl⟩
                      rw [HB2.out]
                      go_wp2
                      go_roundw
                      case rel => exact ⟨j + 1, by omega, by go_num, HOK.out, by have := HK2.out; (focus ((repeat (first | (with_reducible assumption) | (with_reducible exact Kp.refl _) | (with_reducible apply Kp.drew) | (with_reducible apply Kp.drewN) | ((with_reducible apply Kp.setR); (focus (first | (with_reducible assumption) | (simp; done) | (simp; omega)))) | (with_reducible apply Kp.alloc) | ((with_reducible apply Kp.call); (with_reducible assumption)) | ((with_reducible apply Kp.app); (with_reducible assumption)))); done))⟩
                      case measure => simp [intOf]; omega
                    · have HB2 := hide (hbt_f hky)
                      have HOK := hide (HS4.out (fun h => hky ⟨h.1, h.2.1⟩))
                      clear hkd hky
                      go_wp2_with fail
                      refine (hwithin_any kd 1 3 _).mono ?_
                      rintro e w2 ⟨rfl, rfl⟩
                      rw [HB1.out]
                      go_wp2_with fail
                      refine (hwithin_any ky 0 9 _).mono ?_
                      rintro e w2 ⟨rfl, rfl⟩
                      rw [HB2.out]
                      go_wp2
                      go_ret
                      exact ⟨by rw [HOK.out]; rfl, by have := HKK.out; (focus ((repeat (first | (with_reducible assumption) | (with_reducible exact Kp.refl _) | (with_reducible apply Kp.drew) | (with_reducible apply Kp.drewN) | ((with_reducible apply Kp.setR); (focus (first | (with_reducible assumption) | (simp; done) | (simp; omega)))) | (with_reducible apply Kp.alloc) | ((with_reducible apply Kp.call); (with_reducible assumption)) | ((with_reducible apply Kp.app); (with_reducible assumption)))); done))⟩
                  · have HB1 := hide (hbt_f hkd)
                    have HOK := hide (HS4.out (fun h => hkd (by have := h.2.2; simp only at this; omega)))
                    clear hkd
                    go_wp2_with fail
                    refine (hwithin_any kd 1 3 _).mono ?_
                    rintro e w2 ⟨rfl, rfl⟩
                    rw [HB1.out]
                    go_wp2
                    go_ret
                    exact ⟨by rw [HOK.out]; rfl, by have := HKK.out; (focus ((repeat (first | (with_reducible assumption) | (with_reducible exact Kp.refl _) | (with_reducible apply Kp.drew) | (with_reducible apply Kp.drewN) | ((with_reducible apply Kp.setR); (focus (first | (with_reducible assumption) | (simp; done) | (simp; omega)))) | (with_reducible apply Kp.alloc) | ((with_reducible apply Kp.call); (with_reducible assumption)) | ((with_reducible apply Kp.app); (with_reducible assumption)))); done))⟩
                · have HOK := hide (HS1.out (by have := HJ.out; rwa [List.take_of_length_le (by omega)] at this))
                  have HKK := hide hkk
                  go_wp2
                  go_roundw
                  case rel => exact ⟨k + 1, by have := HLT.out; omega, by go_num, HOK.out, HKK.out⟩
                  case measure => simp [intOf]; have := HLT.out; omega
            · have HS : Hid (RF = 0) := hide (HE0.out HP4.out ⟨HKL.out, by have := HI.out; rwa [List.take_of_length_le (by omega)] at this⟩)
              have HKP := hide hkp
              go_wp2
              go_ret
              exact ⟨by rw [HS.out]; rfl, HKP.out⟩
end Go.Proofs.Ytoihdnekkgpcoaa
namespace Go.Proofs.Ytoihdnekkgpcoaa
open Go.ChangeShapes Go.WideShapes Go.ChangeAt Go.RowKit
set_option linter.unusedVariables false
set_option linter.unusedSimpArgs false

def rowI (l : List Int) (Bf : Nat → Nat) (i : Nat) : List Value := [.int .i64 ((mm0 l).ky i), if (mm0 l).ky i = 10 then .pointer none else ptr (Bf ((mm0 l).nx i)), .bool false, .bool false]
theorem mm0_ky {l : List Int} {c : Nat} (h : c < l.length) : (mm0 l).ky (c + 1) = l[c] := by simp [mm0, h]
theorem mm0_kyE {l : List Int} : (mm0 l).ky (l.length + 1) = 10 := by simp [mm0]
theorem mm0_nxI {l : List Int} {i : Nat} (h : i ≤ l.length) : (mm0 l).nx i = i + 1 := by simp [mm0]; omega
theorem rowI_up {l : List Int} (hl : ∀ x ∈ l, x ≤ 9) {Bf : Nat → Nat} {c x i : Nat} (hi : c ≤ i) (h2 : i < l.length + 2) : rowI l (up Bf c x) i = rowI l Bf i := by
  unfold rowI
  by_cases e : i = l.length + 1
  · subst e; rw [if_pos mm0_kyE, if_pos mm0_kyE]
  · rw [mm0_nxI (show i ≤ l.length by omega), up_ne _ _ (show i + 1 ≠ c by omega)]
structure Bds (l : List Int) (w0 : World) (c : Nat) (Bf : Nat → Nat) (wr : World) : Prop where
  kp : Kp w0 wr
  bd : ∀ i, c ≤ i → i < l.length + 2 → BC wr (Bf i) 48 (rowI l Bf i) ∧ w0.heap.size ≤ Bf i
  bi : ∀ i j, c ≤ i → i < l.length + 2 → c ≤ j → j < l.length + 2 → Bf i = Bf j → i = j
variable {l : List Int} {P : List (List Dd)} {w0 wr : World} {c : Nat} {Bf : Nat → Nat}
theorem Bds.start (l : List Int) (w0 : World) : Bds l w0 (l.length + 1) (fun _ => w0.heap.size) (w0.alloc (.cells #[.int .i64 10, .pointer none, .bool false, .bool false] 48)) := by
  refine ⟨(Kp.refl w0).alloc, fun i h1 h2 => ⟨?_, Nat.le_refl _⟩, fun i j h1 h2 h3 h4 _ => by omega⟩
  have e : i = l.length + 1 := by omega
  subst e
  have er : rowI l (fun _ => w0.heap.size) (l.length + 1) = [.int .i64 10, .pointer none, .bool false, .bool false] := by unfold rowI; rw [if_pos mm0_kyE, mm0_kyE]
  rw [er]
  exact BC.new w0 _ _
theorem Bds.push (h : Bds l w0 (c + 1) Bf wr) (hl : ∀ x ∈ l, x ≤ 9) (hc : c ≤ l.length) (k : Int) (hk : k = (mm0 l).ky c) (h10 : k ≠ 10) : Bds l w0 c (up Bf c wr.heap.size) (wr.alloc (.cells #[.int .i64 k, ptr (Bf (c + 1)), .bool false, .bool false] 48)) := by
  have hlt : ∀ i, c + 1 ≤ i → i < l.length + 2 → Bf i < wr.heap.size := fun i a b => (h.bd i a b).1.lt
  refine ⟨h.kp.alloc, fun i h1 h2 => ?_, fun i j h1 h2 h3 h4 e => ?_⟩
  · by_cases e : i = c
    · subst e
      rw [up_same]
      have er : rowI l (up Bf i wr.heap.size) i = [.int .i64 k, ptr (Bf (i + 1)), .bool false, .bool false] := by
        unfold rowI; rw [← hk, if_neg h10, mm0_nxI hc, up_ne _ _ (by omega)]
      rw [er]
      exact ⟨BC.new wr _ _, h.kp.size⟩
    · rw [up_ne _ _ e, rowI_up hl h1 h2]
      obtain ⟨a, b⟩ := h.bd i (by omega) h2
      exact ⟨a.kp (Kp.refl wr).alloc, b⟩
  · by_cases ei : i = c
    · by_cases ej : j = c
      · omega
      · rw [ei, up_same, up_ne _ _ ej] at e
        have := hlt j (by omega) h4; omega
    · by_cases ej : j = c
      · rw [ej, up_same, up_ne _ _ ei] at e
        have := hlt i (by omega) h2; omega
      · rw [up_ne _ _ ei, up_ne _ _ ej] at e
        exact h.bi i j (by omega) h2 (by omega) h4 e
def BdRel (l : List Int) (w0 : World) (iv nv : Value) (wr : World) : Prop := ∃ c Bf K, c ≤ l.length ∧ K = (c : Int) - 1 ∧ iv = .int .i64 K ∧ nv = ptr (Bf (c + 1)) ∧ Bds l w0 (c + 1) Bf wr
theorem Bds.kpw {w' : World} (h : Bds l w0 c Bf wr) (k : Kp wr w') : Bds l w0 c Bf w' := ⟨h.kp.trans k, fun i h1 h2 => ⟨(h.bd i h1 h2).1.kp k, (h.bd i h1 h2).2⟩, h.bi⟩
theorem flat_nil (n : Nat) (v : {v : Value // v.oneCell' = true}) : (List.replicate n v).flatMap eVal.cells = List.replicate n v.1 := by
  induction n with
  | zero => rfl
  | succ n ih => simp only [List.replicate_succ, List.flatMap_cons, ih]; rfl
def ePtr : Enc Nat := ⟨1, fun b => [ptr b], fun _ => rfl, fun _ u h => by simp at h; subst h; rfl⟩
theorem info_hand : (Try.prog.info? 54).map (fun i => (i.zero, i.size, i.bytes)) = some (some (.pointer none), 1, 8) := by kernel_rfl
theorem row_hand : Row Try.prog 51 54 ePtr 8 := row_of info_hand Try.underlying51 rfl rfl (by decide)
theorem info_dones : (Try.prog.info? 26).map (fun i => (i.zero, i.size, i.bytes)) = some (some (.slice none 0 0), 1, 24) := by kernel_rfl
theorem row_dones : Row Try.prog 50 26 eVal 24 := row_of info_dones Try.underlying50 rfl rfl (by decide)
def handC (pr : Nat → Value) (j : Nat) : List Value := [pr j, .int .i64 0, .nilFunc, .pointer none, .pointer none, .bool false]
/-- Some hands stand at the table. -/
structure Hds (pr : Nat → Value) (w9 : World) (T alg b0 : Nat) (tov hv : Value) (hbs : List Nat) (wr : World) : Prop where
  kf : Kf (fun b => b = T) w9 wr
  tb : BC wr T 53 [.int .i64 alg, ptr b0, hv, .int .i64 0, tov]
  ow : OW wr w9.heap.size 54 ePtr hv hbs
  hb : ∀ j, j < hbs.length → BC wr (hbs.getD j 0) 56 (handC pr j) ∧ w9.heap.size ≤ hbs.getD j 0
  hi : ∀ i j, i < hbs.length → j < hbs.length → hbs.getD i 0 = hbs.getD j 0 → i = j
variable {pr : Nat → Value} {w9 : World} {T alg b0 : Nat} {tov hv hv' : Value} {hbs : List Nat}
theorem getD_snoc {a : List Nat} {x j : Nat} (h : j < a.length) : (a ++ [x]).getD j 0 = a.getD j 0 := by simp [List.getD_eq_getElem?_getD, List.getElem?_append_left h]
theorem getD_last {a : List Nat} {x : Nat} : (a ++ [x]).getD a.length 0 = x := by simp [List.getD_eq_getElem?_getD]
theorem Hds.push {w3 : World} (h : Hds pr w9 T alg b0 tov hv hbs wr) (hT : T < w9.heap.size) {W2 : World} (k2 : Kp (wr.alloc (.cells (handC pr hbs.length).toArray 56)) W2)
    (ho : OW w3 w9.heap.size 54 ePtr hv' (hbs ++ [wr.heap.size])) (hg : W2.grownBy w3 hv.ownBlock) : Hds pr w9 T alg b0 tov hv' (hbs ++ [wr.heap.size]) (w3.setCell ⟨T, 2, none⟩ hv') := by
  have hk2 : Kp wr W2 := ((Kp.refl wr).alloc).trans k2
  have hTv : hv.ownBlock ≠ some T := fun e => by have := (h.ow.lt T e).1; omega
  have hTv' : hv'.ownBlock ≠ some T := fun e => by have := (ho.lt T e).1; omega
  have key : ∀ {b : Nat} {t : TypeId} {cs : List Value}, BC W2 b t cs → t ≠ 54 → b ≠ T → BC (w3.setCell ⟨T, 2, none⟩ hv') b t cs := by
    intro b t cs hb ht hbT
    have h1 : BC w3 b t cs := hb.kf (F := fun b => hv.ownBlock = some b) (Kf.app (Kf.refl _ W2) hg fun k e => .inl e) (fun e => OW.bc_ne (h.ow.kp hk2) hb (fun x => ht x.symm) e)
    exact h1.far hbT
  refine ⟨?_, ?_, ?_, ?_, ?_⟩
  · have a1 : Kf (fun b => b = T) w9 W2 := h.kf.on hk2
    have a2 : Kf (fun b => b = T) w9 w3 := Kf.app a1 hg fun k e => .inr (h.ow.lt k e).1
    exact a2.set (.inl rfl)
  · have h1 : BC W2 T _ _ := h.tb.kp hk2
    have h2 : BC w3 T _ _ := h1.kf (F := fun b => hv.ownBlock = some b) (Kf.app (Kf.refl _ W2) hg fun k e => .inl e) hTv
    exact h2.set (j := 2) (u := hv')
  · exact ho.setCell (p := ⟨T, 2, none⟩) hTv' _
  · intro j hj
    rw [List.length_append, List.length_singleton] at hj
    by_cases e : j = hbs.length
    · subst e
      rw [getD_last]
      refine ⟨key ((BC.new wr _ _).kp k2) (by decide) (by have := h.kf.size; omega), h.kf.size⟩
    · rw [getD_snoc (by omega)]
      obtain ⟨a, b⟩ := h.hb j (by omega)
      exact ⟨key (a.kp hk2) (by decide) (by omega), b⟩
  · intro i j hi hj e
    rw [List.length_append, List.length_singleton] at hi hj
    have lo : ∀ j, j < hbs.length → hbs.getD j 0 < wr.heap.size := fun j hj => (h.hb j hj).1.lt
    by_cases ei : i = hbs.length
    · by_cases ej : j = hbs.length
      · omega
      · rw [ei, getD_last, getD_snoc (by omega)] at e
        have := lo j (by omega); omega
    · by_cases ej : j = hbs.length
      · rw [ej, getD_last, getD_snoc (by omega)] at e
        have := lo i (by omega); omega
      · rw [getD_snoc (by omega), getD_snoc (by omega)] at e
        exact h.hi i j (by omega) (by omega) e
theorem Hds.start (hb : BC w9 T 53 [.int .i64 alg, ptr b0, .slice none 0 0, .int .i64 0, tov]) : Hds pr w9 T alg b0 tov (.slice none 0 0) [] w9 :=
  ⟨Kf.refl _ _, hb, OW.nil, fun j hj => absurd hj (Nat.not_lt_zero _), fun i j hi => absurd hi (Nat.not_lt_zero _)⟩
def HdRel (n : Nat) (pr : Nat → Value) (w9 : World) (T alg b0 : Nat) (tov : Value) (iv : Value) (wr : World) : Prop := ∃ (k : Nat) (hv : Value) (hbs : List Nat), k ≤ n ∧ iv = .int .i64 k ∧ hbs.length = k ∧ Hds pr w9 T alg b0 tov hv hbs wr
theorem flat_ptr (hbs : List Nat) : hbs.flatMap ePtr.cells = (List.range hbs.length).map (fun i => ptr (hbs.getD i 0)) := by
  apply List.ext_getElem?
  intro j
  have e : hbs.flatMap ePtr.cells = hbs.map ptr := by
    induction hbs with
    | nil => rfl
    | cons a t ih => simp only [List.flatMap_cons, List.map_cons, ih]; rfl
  rw [e]
  simp only [List.getElem?_map, List.getD_eq_getElem?_getD]
  by_cases h : j < hbs.length
  · simp [h]
  · simp [h]
/-- The table at the beginning. -/
theorem rn_start {w2 : World} {R0 tg : Nat} (ok : OkIn l P) (ha : 1 ≤ alg ∧ alg ≤ 4) (hB : Bds l w2 0 Bf w9) (hR0 : BC w9 R0 29 [.slice none 0 0, .slice none 0 0]) (htg : BC w9 tg 26 (List.replicate P.length (.slice none 0 0))) (htg2 : w2.heap.size ≤ tg)
    (hT : w2.heap.size ≤ T) (hT9 : BC w9 T 53 [.int .i64 alg, ptr (Bf 0), .slice none 0 0, .int .i64 0, .slice (some ⟨tg, 0, none⟩) P.length P.length])
    (hpr : ∀ i, i < P.length → RD w2 eDeed (pr i) (P.getD i [])) (h : Hds pr w9 T alg (Bf 0) (.slice (some ⟨tg, 0, none⟩) P.length P.length) hv hbs wr) (hn : hbs.length = P.length) : RN w2 T alg R0 P l (st0 l) wr := by
  have key : ∀ {b : Nat} {t : TypeId} {cs : List Value}, BC w9 b t cs → t ≠ 53 → BC wr b t cs := fun hb ht => hb.kf h.kf (BC.ne hb hT9 ht)
  have hkp : Kp w2 wr := h.kf.kp hB.kp (fun k e => by rw [e]; exact hT)
  have hz9 : w2.heap.size ≤ w9.heap.size := hB.kp.size
  obtain ⟨hg, hc, hz, e1, e2⟩ : ∃ hg hc hz, (0 < P.length → hv = .slice (some ⟨hg, 0, none⟩) P.length hc) ∧ (0 < P.length → P.length ≤ hc ∧ hc ≤ maxLen ∧ BC wr hg 54 ((List.range P.length).map (fun i => ptr (hbs.getD i 0)) ++ hz)) := by
    by_cases h0 : 0 < P.length
    · obtain ⟨g, c, rfl, _⟩ := h.ow.blk (by omega)
      obtain ⟨cur, hbk, _, h3, h4, h5, h6, _⟩ := BK.of_ow h.ow
      have e6 : cur.take P.length = (List.range P.length).map (fun i => ptr (hbs.getD i 0)) := by
        have : ePtr.size = 1 := rfl
        rw [this, Nat.mul_one, hn, flat_ptr, hn] at h6
        exact h6
      refine ⟨g, c, cur.drop P.length, fun _ => by rw [hn], fun _ => ⟨by omega, h4, ?_⟩⟩
      rw [← e6, List.take_append_drop]
      exact hbk
    · exact ⟨0, 0, [], fun h => absurd h h0, fun h => absurd h h0⟩
  refine ⟨{ w0 := w2, B := Bf, Hb := fun i => hbs.getD i 0, T := T, nh := P.length, alg := alg, hsv := hv, tov := .slice (some ⟨tg, 0, none⟩) P.length P.length, hg := hg, hc := hc, hz := hz, tg := tg, P := fun i => P.getD i [], pr := pr, cst := up (fun _ => none) R0 (some (29, [.slice none 0 0, .slice none 0 0])) }, fun _ => .nilFunc, rfl, rfl, rfl, rfl, by show up (fun _ => none) R0 (some (29, [Value.slice none 0 0, Value.slice none 0 0])) R0 = _; exact up_same _ _ _, ?_⟩
  refine ⟨⟨hkp, fun i hi => ?_, fun i j hi hj e => hB.bi i j (Nat.zero_le _) hi (Nat.zero_le _) hj e, fun i hi => ?_, Nat.succ_pos _, fun i hi => ?_, fun i j hi hj e => h.hi i j (by rw [hn]; exact hi) (by rw [hn]; exact hj) e, ⟨h.tb, hT⟩, fun h0 => ⟨e1 h0, e2 h0⟩, fun h0 => ⟨rfl, htg2, fun _ => .slice none 0 0, ?_, fun i hi => OW.nil, fun i j k _ _ _ e => by cases e⟩, fun b t c e => ?_, hpr⟩, ok, winv0 ok ha.1 ha.2, ha, rfl, fun i hi => ?_, fun i => Nat.zero_le _, fun i hi => .inl ⟨rfl, rfl, rfl⟩⟩
  · obtain ⟨a, b⟩ := hB.bd i (Nat.zero_le _) hi
    exact ⟨key a (by decide), b⟩
  · show (if i = l.length + 1 then i else i + 1) < l.length + 2
    have hi : i < l.length + 2 := hi
    split <;> omega
  · obtain ⟨a, b⟩ := h.hb i (by rw [hn]; exact hi)
    exact ⟨_, _, false, a, Nat.le_trans hz9 b, fun e => absurd rfl e, fun e => absurd rfl e⟩
  · have : (List.range P.length).map (fun _ => Value.slice none 0 0) = List.replicate P.length (.slice none 0 0) := by
      apply List.ext_getElem?
      intro j
      by_cases h : j < P.length
      · simp [h]
      · simp [h]
    rw [this]
    exact key htg (by decide)
  · by_cases eb : b = R0
    · subst eb
      have e : up (fun _ => none) b (some (29, [Value.slice none 0 0, Value.slice none 0 0])) b = some (t, c) := e
      rw [up_same] at e
      injection e with e
      injection e with e3 e4
      subst e3; subst e4
      exact ⟨key hR0 (by decide), by unfold okT; decide⟩
    · have e : up (fun _ => none) R0 (some (29, [Value.slice none 0 0, Value.slice none 0 0])) b = some (t, c) := e
      rw [up_ne _ _ eb] at e
      cases e
  · have hi : i < P.length := hi
    show P[i]? = some (P.getD i [])
    simp [List.getD_eq_getElem?_getD, hi]
end Go.Proofs.Ytoihdnekkgpcoaa
