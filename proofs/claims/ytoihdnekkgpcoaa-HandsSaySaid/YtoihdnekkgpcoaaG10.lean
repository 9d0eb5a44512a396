/-
  hands.within and hands.right: what they answer. Conditions: the lists read as they are named (RD, RDS).
  How the table is made, block by block: beads, hands; the table at the beginning of a run. Conditions: as each theorem says.
  hands.Run: what it answers. Conditions: the lists read as they are named (RD, RDS).
  hands.Run: what it answers where it may not begin. Conditions: the lists read as they are named (RD, RDS).
  plain.within, hedgref.Between, hedgref.MapRight, plain.Check: what they answer. Conditions: the list reads as l (RD).
  hedgref.SameSpots, hedgref.SameInts, slices.Equal: what they answer. Conditions: the lists read as l and m (RD).
  hedgkeep.handsLives: it answers true. The runs of constants, closed. Conditions: none.
  slices.Clone at ints; the row of the ops. Conditions: the list reads as l (RD).
  slices.IndexFunc, ContainsFunc and Clone at what is told: what they answer. Conditions: the slice reads as it is named (RD); the closure answers as p.
-/
import Derived.Test.YtoihdnekkgpcoaaG4
import Derived.Test.YtoihdnekkgpcoaaG3
import Derived.Test.YtoihdnekkgpcoaaG9
import Derived.Deep.LoopGhost
import Derived.Laws.ResultCell
import Derived.Test.YtoihdnekkgpcoaaG1
import Derived.Test.YtoihdnekkgpcoaaG8

namespace Go.Proofs.Ytoihdnekkgpcoaa
open Go.ChangeShapes Go.WideShapes Go.ChangeAt Go.RowKit
set_option linter.unusedVariables false
set_option linter.unusedSimpArgs false

def hbt (n lo hi : Int) : Bool := decide (lo ≤ n) && decide (n ≤ hi)
theorem hbt_t {n lo hi : Int} (h : lo ≤ n ∧ n ≤ hi) : hbt n lo hi = true := by simp [hbt, h]
theorem hbt_f {n lo hi : Int} (h : ¬ (lo ≤ n ∧ n ≤ hi)) : hbt n lo hi = false := by
  unfold hbt
  by_cases h1 : lo ≤ n
  · have : ¬ n ≤ hi := fun h2 => h ⟨h1, h2⟩
    simp [this]
  · simp [h1]
def kyOk (l : List Int) (k : Nat) : Prop := ∀ i, i < k → (0 ≤ l.getD i 0 ∧ l.getD i 0 ≤ 9) ∧ (0 < i → l.getD (i - 1) 0 < l.getD i 0)
def dsOk (P : List (List Dd)) : Prop := ∀ p ∈ P, ∀ d ∈ p, okD d
open Classical in
noncomputable def rgF (algo : Int) (l : List Int) (P : List (List Dd)) (n : Nat) : Int :=
  if ¬ (1 ≤ algo ∧ algo ≤ 4) then 1 else if P.length > 4 ∨ n > 500 ∨ ¬ (∀ p ∈ P, p.length ≤ 4) then 2 else if kyOk l l.length ∧ dsOk P then 0 else 3
theorem kyOk_step {l : List Int} {k : Nat} (h : kyOk l k) (h1 : 0 ≤ l.getD k 0 ∧ l.getD k 0 ≤ 9) (h2 : 0 < k → l.getD (k - 1) 0 < l.getD k 0) : kyOk l (k + 1) := by
  intro i hi
  by_cases e : i = k
  · subst e; exact ⟨h1, h2⟩
  · exact h i (by omega)
theorem take_step {α : Type} {Q : α → Prop} {l : List α} {j : Nat} (h : j < l.length) (h1 : ∀ x ∈ l.take j, Q x) (h2 : Q l[j]) : ∀ x ∈ l.take (j + 1), Q x := by
  intro x hx
  rw [List.take_succ_eq_append_getElem h] at hx
  rcases List.mem_append.1 hx with hx | hx
  · exact h1 x hx
  · rw [List.mem_singleton] at hx; rw [hx]; exact h2
theorem rgF_ok {algo : Int} {l : List Int} {P : List (List Dd)} {n : Nat} (h : rgF algo l P n = 0) : (1 ≤ algo ∧ algo ≤ 4) ∧ n ≤ 500 ∧ OkIn l P := by
  unfold rgF at h
  split at h
  · cases h
  · rename_i h1
    split at h
    · cases h
    · rename_i h2
      split at h
      · rename_i h3
        have h1 : 1 ≤ algo ∧ algo ≤ 4 := Classical.byContradiction fun hh => h1 hh
        have h4 : ∀ p ∈ P, p.length ≤ 4 := Classical.byContradiction fun hh => h2 (.inr (.inr hh))
        have hg : ∀ i (hi : i < l.length), l.getD i 0 = l[i] := fun i hi => by simp [List.getD_eq_getElem?_getD, hi]
        refine ⟨h1, by omega, ⟨fun x hx => ?_, ?_, by omega, h4, h3.2⟩⟩
        · obtain ⟨i, hi, rfl⟩ := List.mem_iff_getElem.1 hx
          have := (h3.1 i hi).1
          rwa [hg i hi] at this
        · rw [List.pairwise_iff_getElem]
          intro i j hi hj hij
          have key : ∀ d, ∀ (hd : i + 1 + d < l.length), l[i] < l[i + 1 + d] := by
            intro d
            induction d with
            | zero =>
              intro hd
              have := (h3.1 (i + 1) hd).2 (by omega)
              rw [hg _ hd, show i + 1 - 1 = i from rfl, hg i hi] at this
              exact this
            | succ d ih =>
              intro hd
              have h5 := ih (by omega)
              have := (h3.1 (i + 1 + (d + 1)) hd).2 (by omega)
              rw [hg _ hd, show i + 1 + (d + 1) - 1 = i + 1 + d from rfl, hg _ (by omega)] at this
              exact Int.lt_trans h5 this
          obtain ⟨d, rfl⟩ := Nat.exists_eq_add_of_le (show i + 1 ≤ j from hij)
          exact key d hj
      · cases h
theorem RD.deed {w : World} {A : Option Addr} {n c : Nat} {l : List Dd} (h : RD w eDeed (.slice A n c) l) {k : Nat} (hk : k < l.length) :
    ∃ b o, A = some ⟨b, o, none⟩ ∧ b < w.heap.size ∧ w.cell? ⟨b, o + k * 2, none⟩ = some (.int .i64 l[k].kind) ∧ w.cell? ⟨b, o + k * 2 + 1, none⟩ = some (.int .i64 l[k].key) := by
  obtain ⟨b, o, rfl, hb, hc⟩ := h.at_ hk
  exact ⟨b, o, rfl, hb, hc 0 (by decide), hc 1 (by decide)⟩
theorem hwithin_any (n lo hi : Int) (w : World) :
    Calls Try.prog 17 #[.int .i64 n, .int .i64 lo, .int .i64 hi] w fun e w' => e = .returned (.bool (hbt n lo hi)) ∧ w = w' := by
  by_cases h1 : lo ≤ n
  · by_cases h2 : n ≤ hi
    · go_enter Try.func17, Try.ntmps17
      go_wp2
      go_ret
      exact ⟨by simp [hbt]; omega, rfl⟩
    · go_enter Try.func17, Try.ntmps17
      go_wp2
      go_ret
      exact ⟨by simp [hbt]; omega, rfl⟩
  · go_enter Try.func17, Try.ntmps17
    go_wp2
    go_ret
    exact ⟨by simp [hbt]; omega, rfl⟩
def RgA (P : List (List Dd)) (w : World) (iv : Value) (wr : World) : Prop := ∃ k : Nat, k ≤ P.length ∧ iv = .int .i64 k ∧ (∀ p ∈ P.take k, p.length ≤ 4) ∧ w = wr
def RgB (l : List Int) (w : World) (iv : Value) (wr : World) : Prop := ∃ k : Nat, k ≤ l.length ∧ iv = .int .i64 k ∧ kyOk l k ∧ w = wr
def RgC (P : List (List Dd)) (w : World) (iv : Value) (wr : World) : Prop := ∃ k : Nat, k ≤ P.length ∧ iv = .int .i64 k ∧ dsOk (P.take k) ∧ Kp w wr
def RgD (p : List Dd) (w : World) (iv : Value) (wr : World) : Prop := ∃ k : Nat, k ≤ p.length ∧ iv = .int .i64 k ∧ (∀ d ∈ p.take k, okD d) ∧ Kp w wr
set_option maxRecDepth 100000 in
set_option maxHeartbeats 8000000 in
theorem hright_any (algo : Int) (l : List Int) (P : List (List Dd)) (o : List Int) (vl vp vo : Value) (w : World) (hl : RD w eInt vl l) (hp : RDS w eDeed vp P) (ho : RD w eInt vo o) :
    Calls Try.prog 16 #[.int .i64 algo, vl, vp, vo] w (fun e w' => e = .returned (.int .i64 (rgF algo l P o.length)) ∧ Kp w w') := by
  obtain ⟨A1, c1, rfl, hc1, _⟩ := hl.shape
  obtain ⟨A2, c2, rfl, hc2, _⟩ := hp.shape
  obtain ⟨A3, c3, rfl, hc3, _⟩ := ho.shape
  have HL := hide hl
  have HP := hide hp
  have HX1 : Hid (l.length < 9223372036854775807 + 1 ∧ P.length < 9223372036854775807 + 1) := hide (by omega)
  clear hl hp ho
  by_cases ha : ¬ (1 ≤ algo ∧ algo ≤ 4)
  · have HE : Hid (rgF algo l P o.length = 1) := hide (by unfold rgF; rw [if_pos ha])
    have HB := hide (hbt_f ha)
    clear ha
    go_enter Try.func16, Try.ntmps16
    go_wp2_with fail
    refine (hwithin_any algo 1 4 _).mono ?_
    rintro e w1 ⟨rfl, rfl⟩
    rw [HB.out]
    go_wp2
    go_ret
    exact ⟨by rw [HE.out]; rfl, Kp.refl _⟩
  have ha' : 1 ≤ algo ∧ algo ≤ 4 := Classical.byContradiction ha
  have HB := hide (hbt_t ha')
  by_cases h4 : P.length > 4 ∨ o.length > 500
  · have HE : Hid (rgF algo l P o.length = 2) := hide (by unfold rgF; rw [if_neg ha, if_pos (h4.elim .inl fun h => .inr (.inl h))])
    clear ha ha'
    go_enter Try.func16, Try.ntmps16
    go_wp2_with fail
    refine (hwithin_any algo 1 4 _).mono ?_
    rintro e w1 ⟨rfl, rfl⟩
    rw [HB.out]
    by_cases h5 : P.length > 4
    · have d1 : decide ((4 : Int) < (P.length : Int)) = true := decide_eq_true (by omega)
      clear h4 h5
      go_wp2
      go_ret
      exact ⟨by rw [HE.out]; rfl, Kp.refl _⟩
    · have d1 : decide ((4 : Int) < (P.length : Int)) = false := decide_eq_false (by omega)
      have d2 : decide ((500 : Int) < (o.length : Int)) = true := decide_eq_true (by omega)
      clear h4 h5
      go_wp2
      go_ret
      exact ⟨by rw [HE.out]; rfl, Kp.refl _⟩
  have d1 : decide ((4 : Int) < (P.length : Int)) = false := decide_eq_false (by omega)
  have d2 : decide ((500 : Int) < (o.length : Int)) = false := decide_eq_false (by omega)
  have HE2 : Hid (¬ (∀ p ∈ P, p.length ≤ 4) → rgF algo l P o.length = 2) := hide (fun h => by unfold rgF; rw [if_neg ha, if_pos (.inr (.inr h))])
  have HE3 : Hid ((∀ p ∈ P, p.length ≤ 4) → ¬ (kyOk l l.length ∧ dsOk P) → rgF algo l P o.length = 3) := hide (fun h h' => by unfold rgF; rw [if_neg ha, if_neg (fun hh => by rcases hh with hh | hh | hh; exact h4 (.inl hh); exact h4 (.inr hh); exact hh h), if_neg h'])
  have HE0 : Hid ((∀ p ∈ P, p.length ≤ 4) → (kyOk l l.length ∧ dsOk P) → rgF algo l P o.length = 0) := hide (fun h h' => by unfold rgF; rw [if_neg ha, if_neg (fun hh => by rcases hh with hh | hh | hh; exact h4 (.inl hh); exact h4 (.inr hh); exact hh h), if_pos h'])
  obtain ⟨RF, hRF⟩ : ∃ RF, RF = rgF algo l P o.length := ⟨_, rfl⟩
  rw [← hRF] at HE2 HE3 HE0 ⊢
  clear ha ha' h4 hRF
  go_enter Try.func16, Try.ntmps16
  go_wp2_with fail
  refine (hwithin_any algo 1 4 _).mono ?_
  rintro e w1 ⟨rfl, rfl⟩
  rw [HB.out]
  go_wp2
  clear d1 d2
  go_loopw [30] (RgA P w) (fun k _ => P.length - (intOf k).toNat)
  case atStart => exact ⟨0, by omega, rfl, by simp, rfl⟩
  case round =>
    obtain ⟨k, hk, rfl, hin, rfl⟩ := hrel
    have HI := hide hin
    clear hin
    by_cases hlt : k < P.length
    · obtain ⟨b, oo, u, e, _, c0, hu⟩ := HP.out.at_ hlt
      cases e
      obtain ⟨A4, c4, rfl, _, _⟩ := hu.shape
      by_cases h4 : P[k].length ≤ 4
      · have HS := hide (take_step (Q := fun p => p.length ≤ 4) hlt HI.out h4)
        have d3 : decide ((4 : Int) < (P[k].length : Int)) = false := decide_eq_false (by omega)
        obtain ⟨x, hx⟩ : ∃ x, x = P[k].length := ⟨_, rfl⟩
        rw [← hx] at c0 d3
        clear hu hx h4
        go_wp2
        go_roundw
        case rel => exact ⟨k + 1, by omega, by go_num, HS.out, rfl⟩
        case measure => simp [intOf]; omega
      · have HS : Hid (RF = 2) := hide (HE2.out (fun h => h4 (h _ (List.getElem_mem hlt))))
        have d3 : decide ((4 : Int) < (P[k].length : Int)) = true := decide_eq_true (by omega)
        obtain ⟨x, hx⟩ : ∃ x, x = P[k].length := ⟨_, rfl⟩
        rw [← hx] at c0 d3
        clear hu hx h4
        go_wp2
        go_ret
        exact ⟨by rw [HS.out]; rfl, Kp.refl _⟩
    · have HP4 : Hid (∀ p ∈ P, p.length ≤ 4) := hide (by have := HI.out; rwa [List.take_of_length_le (by omega)] at this)
      go_wp2
      go_loopw [40] (RgB l w) (fun k _ => l.length - (intOf k).toNat)
      case atStart => exact ⟨0, by omega, rfl, fun i hi => by omega, rfl⟩
      case round =>
        obtain ⟨j, hj, rfl, hin, rfl⟩ := hrel
        have HJ := hide hin
        clear hin
        by_cases hjl : j < l.length
        · obtain ⟨b, oo, e, _, c0⟩ := HL.out.int hjl
          cases e
          have hgd : l.getD j 0 = l[j] := by simp [List.getD_eq_getElem?_getD, hjl]
          obtain ⟨x, hx⟩ : ∃ x, x = l[j] := ⟨_, rfl⟩
          rw [← hx] at c0 hgd
          by_cases h9 : 0 ≤ x ∧ x ≤ 9
          · have HB9 := hide (hbt_t h9)
            by_cases hj0 : 0 < j
            · obtain ⟨_, _, e, _, c5⟩ := HL.out.int (show j - 1 < l.length by omega)
              cases e
              have hgd2 : l.getD (j - 1) 0 = l[j - 1] := by simp [List.getD_eq_getElem?_getD, show j - 1 < l.length by omega]
              obtain ⟨y, hy⟩ : ∃ y, y = l[j - 1]'(show j - 1 < l.length by omega) := ⟨_, rfl⟩
              rw [← hy] at c5 hgd2
              have s5 : IntKind.i64.wrap ((j : Int) - 1) = ((j - 1 : Nat) : Int) := by rw [IntWalk.i64_in _ (by omega)]; omega
              have l5 : ((j - 1 : Nat) : Int) < (l.length : Int) := by omega
              have p5 : (0 : Int) < (j : Int) := by omega
              by_cases hxy : y < x
              · have HS := hide (kyOk_step HJ.out (by rw [hgd]; exact h9) (fun _ => by rw [hgd, hgd2]; exact hxy))
                have d5 : decide (x ≤ y) = false := decide_eq_false (by omega)
                have HLT := hide hjl
                clear hx hy hgd hgd2 h9 hxy
                go_wp2_with fail
                refine (hwithin_any x 0 9 _).mono ?_
                rintro e w2 ⟨rfl, rfl⟩
                rw [HB9.out]
                go_wp2
                go_roundw
                case rel => exact ⟨j + 1, by omega, by go_num, HS.out, rfl⟩
                case measure => simp [intOf]; omega
              · have HS : Hid (RF = 3) := hide (HE3.out HP4.out (fun h => hxy (by have := (h.1 j hjl).2 hj0; rwa [hgd, hgd2] at this)))
                have d5 : decide (x ≤ y) = true := decide_eq_true (by omega)
                clear hx hy hgd hgd2 h9 hxy
                go_wp2_with fail
                refine (hwithin_any x 0 9 _).mono ?_
                rintro e w2 ⟨rfl, rfl⟩
                rw [HB9.out]
                go_wp2
                go_ret
                exact ⟨by rw [HS.out]; rfl, Kp.refl _⟩
            · have HS := hide (kyOk_step HJ.out (by rw [hgd]; exact h9) (fun h => absurd h hj0))
              have p5 : ¬ (0 : Int) < (j : Int) := by omega
              clear hx hgd h9
              go_wp2_with fail
              refine (hwithin_any x 0 9 _).mono ?_
              rintro e w2 ⟨rfl, rfl⟩
              rw [HB9.out]
              go_wp2
              go_roundw
              case rel => exact ⟨j + 1, by omega, by go_num, HS.out, rfl⟩
              case measure => simp [intOf]; omega
          · have HB9 := hide (hbt_f h9)
            have HS : Hid (RF = 3) := hide (HE3.out HP4.out (fun h => h9 (by have := (h.1 j hjl).1; rwa [hgd] at this)))
            clear hx hgd h9
            go_wp2_with fail
            refine (hwithin_any x 0 9 _).mono ?_
            rintro e w2 ⟨rfl, rfl⟩
            rw [HB9.out]
            go_wp2
            go_ret
            exact ⟨by rw [HS.out]; rfl, Kp.refl _⟩
        · have HKL : Hid (kyOk l l.length) := hide (by have := HJ.out; rwa [show j = l.length by omega] at this)
          go_wp2
          go_loopw [64] (RgC P w) (fun k _ => P.length - (intOf k).toNat)
          case atStart => exact ⟨0, by omega, rfl, fun p hp => by simp at hp, Kp.refl _⟩
          case round =>
            obtain ⟨k, hk, rfl, hin, hkp⟩ := hrel
            have HI := hide hin
            clear hin
            by_cases hlt : k < P.length
            · obtain ⟨b, oo, u, e, _, c0, hu⟩ := (HP.out.kp hkp).at_ hlt
              cases e
              obtain ⟨A4, c4, rfl, hq4, _⟩ := hu.shape
              have HU := hide hu
              have HLT := hide hlt
              have HKP := hide hkp
              have HS1 := hide (fun h => take_step (Q := fun p => ∀ d ∈ p, okD d) hlt HI.out h)
              have HS2 : Hid (¬ (∀ d ∈ P[k]'hlt, okD d) → RF = 3) := hide (fun hh => HE3.out HP4.out (fun h => hh (h.2 _ (List.getElem_mem hlt))))
              obtain ⟨p, hpe⟩ : ∃ p, p = P[k]'hlt := ⟨_, rfl⟩
              rw [← hpe] at c0 HU HS1 HS2 hq4
              clear hpe hu
              go_wp2
              go_loopw [70] (RgD p wr) (fun k _ => p.length - (intOf k).toNat)
              case atStart => exact ⟨0, by omega, rfl, fun p hp => by simp at hp, Kp.refl _⟩
              case round =>
                obtain ⟨j, hj, rfl, hin, hkp2⟩ := hrel
                have HJ := hide hin
                clear hin
                have hkk := HKP.out.trans hkp2
                by_cases hjl : j < p.length
                · obtain ⟨b4, o4, e, _, x0, x1⟩ := (HU.out.kp hkp2).deed hjl
                  cases e
                  have HKK := hide hkk
                  have HK2 := hide hkp2
                  have HS3 := hide (fun h => take_step (Q := okD) hjl HJ.out h)
                  have HS4 : Hid (¬ okD (p[j]'hjl) → RF = 3) := hide (fun hh => HS2.out (fun h => hh (h _ (List.getElem_mem hjl))))
                  obtain ⟨d, hd⟩ : ∃ d, d = p[j]'hjl := ⟨_, rfl⟩
                  rw [← hd] at x0 x1 HS3 HS4
                  obtain ⟨kd, ky⟩ := d
                  simp only at x0 x1
                  clear hd hkk hkp2
                  by_cases hkd : 1 ≤ kd ∧ kd ≤ 3
                  · have HB1 := hide (hbt_t hkd)
                    by_cases hky : 0 ≤ ky ∧ ky ≤ 9
                    · have HB2 := hide (hbt_t hky)
                      have HOK := hide (HS3.out ⟨hky.1, hky.2, by show kd = 1 ∨ kd = 2 ∨ kd = 3; omega⟩)
                      clear hkd hky
                      go_wp2_with fail
                      refine (hwithin_any kd 1 3 _).mono ?_
                      rintro e w2 ⟨rfl, rfl⟩
                      rw [HB1.out]
                      go_wp2_with fail
                      refine (hwithin_any ky 0 9 _).mono ?_
                      rintro e w2 ⟨rfl, rfl⟩
                      rw [HB2.out]
                      go_wp2
                      go_roundw
                      case rel => exact ⟨j + 1, by omega, by go_num, HOK.out, by have := HK2.out; (focus ((repeat (first | (with_reducible assumption) | (with_reducible exact Kp.refl _) | (with_reducible apply Kp.drew) | (with_reducible apply Kp.drewN) | ((with_reducible apply Kp.setR); (focus (first | (with_reducible assumption) | (simp; done) | (simp; omega)))) | (with_reducible apply Kp.alloc) | ((with_reducible apply Kp.call); (with_reducible assumption)) | ((with_reducible apply Kp.app); (with_reducible assumption)))); done))⟩
                      case measure => simp [intOf]; omega
                    · have HB2 := hide (hbt_f hky)
                      have HOK := hide (HS4.out (fun h => hky ⟨h.1, h.2.1⟩))
                      clear hkd hky
                      go_wp2_with fail
                      refine (hwithin_any kd 1 3 _).mono ?_
                      rintro e w2 ⟨rfl, rfl⟩
                      rw [HB1.out]
                      go_wp2_with fail
                      refine (hwithin_any ky 0 9 _).mono ?_
                      rintro e w2 ⟨rfl, rfl⟩
                      rw [HB2.out]
                      go_wp2
                      go_ret
                      exact ⟨by rw [HOK.out]; rfl, by have := HKK.out; (focus ((repeat (first | (with_reducible assumption) | (with_reducible exact Kp.refl _) | (with_reducible apply Kp.drew) | (with_reducible apply Kp.drewN) | ((with_reducible apply Kp.setR); (focus (first | (with_reducible assumption) | (simp; done) | (simp; omega)))) | (with_reducible apply Kp.alloc) | ((with_reducible apply Kp.call); (with_reducible assumption)) | ((with_reducible apply Kp.app); (with_reducible assumption)))); done))⟩
                  · have HB1 := hide (hbt_f hkd)
                    have HOK := hide (HS4.out (fun h => hkd (by have := h.2.2; simp only at this; omega)))
                    clear hkd
                    go_wp2_with fail
                    refine (hwithin_any kd 1 3 _).mono ?_
                    rintro e w2 ⟨rfl, rfl⟩
                    rw [HB1.out]
                    go_wp2
                    go_ret
                    exact ⟨by rw [HOK.out]; rfl, by have := HKK.out; (focus ((repeat (first | (with_reducible assumption) | (with_reducible exact Kp.refl _) | (with_reducible apply Kp.drew) | (with_reducible apply Kp.drewN) | ((with_reducible apply Kp.setR); (focus (first | (with_reducible assumption) | (simp; done) | (simp; omega)))) | (with_reducible apply Kp.alloc) | ((with_reducible apply Kp.call); (with_reducible assumption)) | ((with_reducible apply Kp.app); (with_reducible assumption)))); done))⟩
                · have HOK := hide (HS1.out (by have := HJ.out; rwa [List.take_of_length_le (by omega)] at this))
                  have HKK := hide hkk
                  go_wp2
                  go_roundw
                  case rel => exact ⟨k + 1, by have := HLT.out; omega, by go_num, HOK.out, HKK.out⟩
                  case measure => simp [intOf]; have := HLT.out; omega
            · have HS : Hid (RF = 0) := hide (HE0.out HP4.out ⟨HKL.out, by have := HI.out; rwa [List.take_of_length_le (by omega)] at this⟩)
              have HKP := hide hkp
              go_wp2
              go_ret
              exact ⟨by rw [HS.out]; rfl, HKP.out⟩
end Go.Proofs.Ytoihdnekkgpcoaa
namespace Go.Proofs.Ytoihdnekkgpcoaa
open Go.ChangeShapes Go.WideShapes Go.ChangeAt Go.RowKit
set_option linter.unusedVariables false
set_option linter.unusedSimpArgs false

def rowI (l : List Int) (Bf : Nat → Nat) (i : Nat) : List Value := [.int .i64 ((mm0 l).ky i), if (mm0 l).ky i = 10 then .pointer none else ptr (Bf ((mm0 l).nx i)), .bool false, .bool false]
theorem mm0_ky {l : List Int} {c : Nat} (h : c < l.length) : (mm0 l).ky (c + 1) = l[c] := by simp [mm0, h]
theorem mm0_kyE {l : List Int} : (mm0 l).ky (l.length + 1) = 10 := by simp [mm0]
theorem mm0_nxI {l : List Int} {i : Nat} (h : i ≤ l.length) : (mm0 l).nx i = i + 1 := by simp [mm0]; omega
theorem rowI_up {l : List Int} (hl : ∀ x ∈ l, x ≤ 9) {Bf : Nat → Nat} {c x i : Nat} (hi : c ≤ i) (h2 : i < l.length + 2) : rowI l (up Bf c x) i = rowI l Bf i := by
  unfold rowI
  by_cases e : i = l.length + 1
  · subst e; rw [if_pos mm0_kyE, if_pos mm0_kyE]
  · rw [mm0_nxI (show i ≤ l.length by omega), up_ne _ _ (show i + 1 ≠ c by omega)]
structure Bds (l : List Int) (w0 : World) (c : Nat) (Bf : Nat → Nat) (wr : World) : Prop where
  kp : Kp w0 wr
  bd : ∀ i, c ≤ i → i < l.length + 2 → BC wr (Bf i) 48 (rowI l Bf i) ∧ w0.heap.size ≤ Bf i
  bi : ∀ i j, c ≤ i → i < l.length + 2 → c ≤ j → j < l.length + 2 → Bf i = Bf j → i = j
variable {l : List Int} {P : List (List Dd)} {w0 wr : World} {c : Nat} {Bf : Nat → Nat}
theorem Bds.start (l : List Int) (w0 : World) : Bds l w0 (l.length + 1) (fun _ => w0.heap.size) (w0.alloc (.cells #[.int .i64 10, .pointer none, .bool false, .bool false] 48)) := by
  refine ⟨(Kp.refl w0).alloc, fun i h1 h2 => ⟨?_, Nat.le_refl _⟩, fun i j h1 h2 h3 h4 _ => by omega⟩
  have e : i = l.length + 1 := by omega
  subst e
  have er : rowI l (fun _ => w0.heap.size) (l.length + 1) = [.int .i64 10, .pointer none, .bool false, .bool false] := by unfold rowI; rw [if_pos mm0_kyE, mm0_kyE]
  rw [er]
  exact BC.new w0 _ _
theorem Bds.push (h : Bds l w0 (c + 1) Bf wr) (hl : ∀ x ∈ l, x ≤ 9) (hc : c ≤ l.length) (k : Int) (hk : k = (mm0 l).ky c) (h10 : k ≠ 10) : Bds l w0 c (up Bf c wr.heap.size) (wr.alloc (.cells #[.int .i64 k, ptr (Bf (c + 1)), .bool false, .bool false] 48)) := by
  have hlt : ∀ i, c + 1 ≤ i → i < l.length + 2 → Bf i < wr.heap.size := fun i a b => (h.bd i a b).1.lt
  refine ⟨h.kp.alloc, fun i h1 h2 => ?_, fun i j h1 h2 h3 h4 e => ?_⟩
  · by_cases e : i = c
    · subst e
      rw [up_same]
      have er : rowI l (up Bf i wr.heap.size) i = [.int .i64 k, ptr (Bf (i + 1)), .bool false, .bool false] := by
        unfold rowI; rw [← hk, if_neg h10, mm0_nxI hc, up_ne _ _ (by omega)]
      rw [er]
      exact ⟨BC.new wr _ _, h.kp.size⟩
    · rw [up_ne _ _ e, rowI_up hl h1 h2]
      obtain ⟨a, b⟩ := h.bd i (by omega) h2
      exact ⟨a.kp (Kp.refl wr).alloc, b⟩
  · by_cases ei : i = c
    · by_cases ej : j = c
      · omega
      · rw [ei, up_same, up_ne _ _ ej] at e
        have := hlt j (by omega) h4; omega
    · by_cases ej : j = c
      · rw [ej, up_same, up_ne _ _ ei] at e
        have := hlt i (by omega) h2; omega
      · rw [up_ne _ _ ei, up_ne _ _ ej] at e
        exact h.bi i j (by omega) h2 (by omega) h4 e
def BdRel (l : List Int) (w0 : World) (iv nv : Value) (wr : World) : Prop := ∃ c Bf K, c ≤ l.length ∧ K = (c : Int) - 1 ∧ iv = .int .i64 K ∧ nv = ptr (Bf (c + 1)) ∧ Bds l w0 (c + 1) Bf wr
theorem Bds.kpw {w' : World} (h : Bds l w0 c Bf wr) (k : Kp wr w') : Bds l w0 c Bf w' := ⟨h.kp.trans k, fun i h1 h2 => ⟨(h.bd i h1 h2).1.kp k, (h.bd i h1 h2).2⟩, h.bi⟩
theorem flat_nil (n : Nat) (v : {v : Value // v.oneCell' = true}) : (List.replicate n v).flatMap eVal.cells = List.replicate n v.1 := by
  induction n with
  | zero => rfl
  | succ n ih => simp only [List.replicate_succ, List.flatMap_cons, ih]; rfl
def ePtr : Enc Nat := ⟨1, fun b => [ptr b], fun _ => rfl, fun _ u h => by simp at h; subst h; rfl⟩
theorem info_hand : (Try.prog.info? 54).map (fun i => (i.zero, i.size, i.bytes)) = some (some (.pointer none), 1, 8) := by kernel_rfl
theorem row_hand : Row Try.prog 51 54 ePtr 8 := row_of info_hand Try.underlying51 rfl rfl (by decide)
theorem info_dones : (Try.prog.info? 26).map (fun i => (i.zero, i.size, i.bytes)) = some (some (.slice none 0 0), 1, 24) := by kernel_rfl
theorem row_dones : Row Try.prog 50 26 eVal 24 := row_of info_dones Try.underlying50 rfl rfl (by decide)
def handC (pr : Nat → Value) (j : Nat) : List Value := [pr j, .int .i64 0, .nilFunc, .pointer none, .pointer none, .bool false]
/-- Some hands stand at the table. -/
structure Hds (pr : Nat → Value) (w9 : World) (T alg b0 : Nat) (tov hv : Value) (hbs : List Nat) (wr : World) : Prop where
  kf : Kf (fun b => b = T) w9 wr
  tb : BC wr T 53 [.int .i64 alg, ptr b0, hv, .int .i64 0, tov]
  ow : OW wr w9.heap.size 54 ePtr hv hbs
  hb : ∀ j, j < hbs.length → BC wr (hbs.getD j 0) 56 (handC pr j) ∧ w9.heap.size ≤ hbs.getD j 0
  hi : ∀ i j, i < hbs.length → j < hbs.length → hbs.getD i 0 = hbs.getD j 0 → i = j
variable {pr : Nat → Value} {w9 : World} {T alg b0 : Nat} {tov hv hv' : Value} {hbs : List Nat}
theorem getD_snoc {a : List Nat} {x j : Nat} (h : j < a.length) : (a ++ [x]).getD j 0 = a.getD j 0 := by simp [List.getD_eq_getElem?_getD, List.getElem?_append_left h]
theorem getD_last {a : List Nat} {x : Nat} : (a ++ [x]).getD a.length 0 = x := by simp [List.getD_eq_getElem?_getD]
theorem Hds.push {w3 : World} (h : Hds pr w9 T alg b0 tov hv hbs wr) (hT : T < w9.heap.size) {W2 : World} (k2 : Kp (wr.alloc (.cells (handC pr hbs.length).toArray 56)) W2)
    (ho : OW w3 w9.heap.size 54 ePtr hv' (hbs ++ [wr.heap.size])) (hg : W2.grownBy w3 hv.ownBlock) : Hds pr w9 T alg b0 tov hv' (hbs ++ [wr.heap.size]) (w3.setCell ⟨T, 2, none⟩ hv') := by
  have hk2 : Kp wr W2 := ((Kp.refl wr).alloc).trans k2
  have hTv : hv.ownBlock ≠ some T := fun e => by have := (h.ow.lt T e).1; omega
  have hTv' : hv'.ownBlock ≠ some T := fun e => by have := (ho.lt T e).1; omega
  have key : ∀ {b : Nat} {t : TypeId} {cs : List Value}, BC W2 b t cs → t ≠ 54 → b ≠ T → BC (w3.setCell ⟨T, 2, none⟩ hv') b t cs := by
    intro b t cs hb ht hbT
    have h1 : BC w3 b t cs := hb.kf (F := fun b => hv.ownBlock = some b) (Kf.app (Kf.refl _ W2) hg fun k e => .inl e) (fun e => OW.bc_ne (h.ow.kp hk2) hb (fun x => ht x.symm) e)
    exact h1.far hbT
  refine ⟨?_, ?_, ?_, ?_, ?_⟩
  · have a1 : Kf (fun b => b = T) w9 W2 := h.kf.on hk2
    have a2 : Kf (fun b => b = T) w9 w3 := Kf.app a1 hg fun k e => .inr (h.ow.lt k e).1
    exact a2.set (.inl rfl)
  · have h1 : BC W2 T _ _ := h.tb.kp hk2
    have h2 : BC w3 T _ _ := h1.kf (F := fun b => hv.ownBlock = some b) (Kf.app (Kf.refl _ W2) hg fun k e => .inl e) hTv
    exact h2.set (j := 2) (u := hv')
  · exact ho.setCell (p := ⟨T, 2, none⟩) hTv' _
  · intro j hj
    rw [List.length_append, List.length_singleton] at hj
    by_cases e : j = hbs.length
    · subst e
      rw [getD_last]
      refine ⟨key ((BC.new wr _ _).kp k2) (by decide) (by have := h.kf.size; omega), h.kf.size⟩
    · rw [getD_snoc (by omega)]
      obtain ⟨a, b⟩ := h.hb j (by omega)
      exact ⟨key (a.kp hk2) (by decide) (by omega), b⟩
  · intro i j hi hj e
    rw [List.length_append, List.length_singleton] at hi hj
    have lo : ∀ j, j < hbs.length → hbs.getD j 0 < wr.heap.size := fun j hj => (h.hb j hj).1.lt
    by_cases ei : i = hbs.length
    · by_cases ej : j = hbs.length
      · omega
      · rw [ei, getD_last, getD_snoc (by omega)] at e
        have := lo j (by omega); omega
    · by_cases ej : j = hbs.length
      · rw [ej, getD_last, getD_snoc (by omega)] at e
        have := lo i (by omega); omega
      · rw [getD_snoc (by omega), getD_snoc (by omega)] at e
        exact h.hi i j (by omega) (by omega) e
theorem Hds.start (hb : BC w9 T 53 [.int .i64 alg, ptr b0, .slice none 0 0, .int .i64 0, tov]) : Hds pr w9 T alg b0 tov (.slice none 0 0) [] w9 :=
  ⟨Kf.refl _ _, hb, OW.nil, fun j hj => absurd hj (Nat.not_lt_zero _), fun i j hi => absurd hi (Nat.not_lt_zero _)⟩
def HdRel (n : Nat) (pr : Nat → Value) (w9 : World) (T alg b0 : Nat) (tov : Value) (iv : Value) (wr : World) : Prop := ∃ (k : Nat) (hv : Value) (hbs : List Nat), k ≤ n ∧ iv = .int .i64 k ∧ hbs.length = k ∧ Hds pr w9 T alg b0 tov hv hbs wr
theorem flat_ptr (hbs : List Nat) : hbs.flatMap ePtr.cells = (List.range hbs.length).map (fun i => ptr (hbs.getD i 0)) := by
  apply List.ext_getElem?
  intro j
  have e : hbs.flatMap ePtr.cells = hbs.map ptr := by
    induction hbs with
    | nil => rfl
    | cons a t ih => simp only [List.flatMap_cons, List.map_cons, ih]; rfl
  rw [e]
  simp only [List.getElem?_map, List.getD_eq_getElem?_getD]
  by_cases h : j < hbs.length
  · simp [h]
  · simp [h]
/-- The table at the beginning. -/
theorem rn_start {w2 : World} {R0 tg : Nat} (ok : OkIn l P) (ha : 1 ≤ alg ∧ alg ≤ 4) (hB : Bds l w2 0 Bf w9) (hR0 : BC w9 R0 29 [.slice none 0 0, .slice none 0 0]) (htg : BC w9 tg 26 (List.replicate P.length (.slice none 0 0))) (htg2 : w2.heap.size ≤ tg)
    (hT : w2.heap.size ≤ T) (hT9 : BC w9 T 53 [.int .i64 alg, ptr (Bf 0), .slice none 0 0, .int .i64 0, .slice (some ⟨tg, 0, none⟩) P.length P.length])
    (hpr : ∀ i, i < P.length → RD w2 eDeed (pr i) (P.getD i [])) (h : Hds pr w9 T alg (Bf 0) (.slice (some ⟨tg, 0, none⟩) P.length P.length) hv hbs wr) (hn : hbs.length = P.length) : RN w2 T alg R0 P l (st0 l) wr := by
  have key : ∀ {b : Nat} {t : TypeId} {cs : List Value}, BC w9 b t cs → t ≠ 53 → BC wr b t cs := fun hb ht => hb.kf h.kf (BC.ne hb hT9 ht)
  have hkp : Kp w2 wr := h.kf.kp hB.kp (fun k e => by rw [e]; exact hT)
  have hz9 : w2.heap.size ≤ w9.heap.size := hB.kp.size
  obtain ⟨hg, hc, hz, e1, e2⟩ : ∃ hg hc hz, (0 < P.length → hv = .slice (some ⟨hg, 0, none⟩) P.length hc) ∧ (0 < P.length → P.length ≤ hc ∧ hc ≤ maxLen ∧ BC wr hg 54 ((List.range P.length).map (fun i => ptr (hbs.getD i 0)) ++ hz)) := by
    by_cases h0 : 0 < P.length
    · obtain ⟨g, c, rfl, _⟩ := h.ow.blk (by omega)
      obtain ⟨cur, hbk, _, h3, h4, h5, h6, _⟩ := BK.of_ow h.ow
      have e6 : cur.take P.length = (List.range P.length).map (fun i => ptr (hbs.getD i 0)) := by
        have : ePtr.size = 1 := rfl
        rw [this, Nat.mul_one, hn, flat_ptr, hn] at h6
        exact h6
      refine ⟨g, c, cur.drop P.length, fun _ => by rw [hn], fun _ => ⟨by omega, h4, ?_⟩⟩
      rw [← e6, List.take_append_drop]
      exact hbk
    · exact ⟨0, 0, [], fun h => absurd h h0, fun h => absurd h h0⟩
  refine ⟨{ w0 := w2, B := Bf, Hb := fun i => hbs.getD i 0, T := T, nh := P.length, alg := alg, hsv := hv, tov := .slice (some ⟨tg, 0, none⟩) P.length P.length, hg := hg, hc := hc, hz := hz, tg := tg, P := fun i => P.getD i [], pr := pr, cst := up (fun _ => none) R0 (some (29, [.slice none 0 0, .slice none 0 0])) }, fun _ => .nilFunc, rfl, rfl, rfl, rfl, by show up (fun _ => none) R0 (some (29, [Value.slice none 0 0, Value.slice none 0 0])) R0 = _; exact up_same _ _ _, ?_⟩
  refine ⟨⟨hkp, fun i hi => ?_, fun i j hi hj e => hB.bi i j (Nat.zero_le _) hi (Nat.zero_le _) hj e, fun i hi => ?_, Nat.succ_pos _, fun i hi => ?_, fun i j hi hj e => h.hi i j (by rw [hn]; exact hi) (by rw [hn]; exact hj) e, ⟨h.tb, hT⟩, fun h0 => ⟨e1 h0, e2 h0⟩, fun h0 => ⟨rfl, htg2, fun _ => .slice none 0 0, ?_, fun i hi => OW.nil, fun i j k _ _ _ e => by cases e⟩, fun b t c e => ?_, hpr⟩, ok, winv0 ok ha.1 ha.2, ha, rfl, fun i hi => ?_, fun i => Nat.zero_le _, fun i hi => .inl ⟨rfl, rfl, rfl⟩⟩
  · obtain ⟨a, b⟩ := hB.bd i (Nat.zero_le _) hi
    exact ⟨key a (by decide), b⟩
  · show (if i = l.length + 1 then i else i + 1) < l.length + 2
    have hi : i < l.length + 2 := hi
    split <;> omega
  · obtain ⟨a, b⟩ := h.hb i (by rw [hn]; exact hi)
    exact ⟨_, _, false, a, Nat.le_trans hz9 b, fun e => absurd rfl e, fun e => absurd rfl e⟩
  · have : (List.range P.length).map (fun _ => Value.slice none 0 0) = List.replicate P.length (.slice none 0 0) := by
      apply List.ext_getElem?
      intro j
      by_cases h : j < P.length
      · simp [h]
      · simp [h]
    rw [this]
    exact key htg (by decide)
  · by_cases eb : b = R0
    · subst eb
      have e : up (fun _ => none) b (some (29, [Value.slice none 0 0, Value.slice none 0 0])) b = some (t, c) := e
      rw [up_same] at e
      injection e with e
      injection e with e3 e4
      subst e3; subst e4
      exact ⟨key hR0 (by decide), by unfold okT; decide⟩
    · have e : up (fun _ => none) R0 (some (29, [Value.slice none 0 0, Value.slice none 0 0])) b = some (t, c) := e
      rw [up_ne _ _ eb] at e
      cases e
  · have hi : i < P.length := hi
    show P[i]? = some (P.getD i [])
    simp [List.getD_eq_getElem?_getD, hi]
end Go.Proofs.Ytoihdnekkgpcoaa
namespace Go.Proofs.Ytoihdnekkgpcoaa
open Go.ChangeShapes Go.WideShapes Go.ChangeAt Go.RowKit
set_option linter.unusedVariables false
set_option linter.unusedSimpArgs false

theorem RDS.fn {α : Type} {w : World} {E : Enc α} {v : Value} {ls : List (List α)} (h : RDS w E v ls) : ∃ (A : Option Addr) (c : Nat) (pA : Nat → Option Addr) (pN pC : Nat → Nat), v = .slice A ls.length c ∧ ls.length ≤ c ∧ c ≤ maxLen ∧
    ∀ k, k < ls.length → ∃ b o, A = some ⟨b, o, none⟩ ∧ b < w.heap.size ∧ w.cell? ⟨b, o + k, none⟩ = some (.slice (pA k) (pN k) (pC k)) ∧ RD w E (.slice (pA k) (pN k) (pC k)) (ls.getD k []) := by
  obtain ⟨A, c, rfl, h1, h2, h3⟩ := id h
  have key : ∀ k, ∃ x : Option Addr × Nat × Nat, k < ls.length → ∃ b o, A = some ⟨b, o, none⟩ ∧ b < w.heap.size ∧ w.cell? ⟨b, o + k, none⟩ = some (.slice x.1 x.2.1 x.2.2) ∧ RD w E (.slice x.1 x.2.1 x.2.2) (ls.getD k []) := by
    intro k
    by_cases hk : k < ls.length
    · obtain ⟨b, o, u, rfl, hb, hc, hr⟩ := h.at_ hk
      obtain ⟨a, n, cc, rfl⟩ : ∃ a n cc, u = .slice a n cc := by obtain ⟨a, cc, e, _⟩ := hr; exact ⟨_, _, _, e⟩
      exact ⟨(a, n, cc), fun _ => ⟨b, o, rfl, hb, hc, by simpa [List.getD_eq_getElem?_getD, hk] using hr⟩⟩
    · exact ⟨(none, 0, 0), fun h => absurd h hk⟩
  refine ⟨A, c, fun k => (Classical.choose (key k)).1, fun k => (Classical.choose (key k)).2.1, fun k => (Classical.choose (key k)).2.2, rfl, h1, h2, fun k hk => Classical.choose_spec (key k) hk⟩
theorem results_cell2 {P : Program} {fn : Func} {p u : Tmp} {ty : TypeId} (h : fn.results = #[.cell p ty, .tmp u]) (tmps : Array Value) (w : World) (g : Nat) (t : TypeId) (cs : Array Value) (fr : Nat × Nat) (d : TypeDesc) (v : Value)
    (hp : tmps.getD p undef = .pointer (some ⟨g, 0, none⟩)) (hv : tmps.getD u undef = v) (hg : w.heap[g]? = some (.cells cs t fr)) (hu : P.underlying ty = some d) (hd : (match d with | .struct _ | .array _ _ => true | _ => false) = true) (hi : (P.info? ty).map (·.size) = some cs.size) :
    (results fn tmps).run P w = .ok (.tuple #[.agg cs, v]) w := by
  rw [results_cell_tmp h, hp, hv]
  simp [asAddr, run_loadVar_row w g t ty cs fr d hg hu hd hi, Result.andThen]
theorem info_told2 : (Try.prog.info? 29).map (·.size) = some 2 := by kernel_rfl
/-- The table, with what is told. -/
def RT (w0 : World) (T alg R0 : Nat) (P : List (List Dd)) (l : List Int) (s : St) (w : World) : Prop := RN w0 T alg R0 P l s w ∧ ∃ tg, w.cell? ⟨T, 4, none⟩ = some (.slice (some ⟨tg, 0, none⟩) P.length P.length)
variable {P : List (List Dd)} {l : List Int} {s : St} {w w' w0 : World} {T alg R0 : Nat}
theorem RT.kpw (h : RT w0 T alg R0 P l s w) (k : Kp w w') : RT w0 T alg R0 P l s w' := by
  obtain ⟨a, tg, c⟩ := h
  exact ⟨a.kpw k, tg, k.cell c⟩
theorem RN.rt (h : RN w0 T alg R0 P l s w) (h0 : 0 < P.length) : RT w0 T alg R0 P l s w := by
  refine ⟨h, ?_⟩
  obtain ⟨L, dv, a, b, c, d, e, f⟩ := h
  obtain ⟨t, _⟩ := f.wn.td (by omega)
  have t4 : w.cell? ⟨L.T, 4, none⟩ = some L.tov := f.wn.tb.1.cell 4
  rw [t, b, c] at t4
  exact ⟨_, t4⟩
theorem step_rt (h : RT w0 T alg R0 P l s w) {i : Nat} (hi : i < P.length) (hn : s.now < 100000) :
    Calls Try.prog 18 #[ptr T, .int .i64 i] w (fun e w' => e = .returned (.bool (can P s i)) ∧ RT w0 T alg R0 P l (stpO alg P s i) w') :=
  (step_rn h.1 hi hn).mono fun e w' h => ⟨h.1, h.2.rt (by omega)⟩
theorem left_rt (h : RT w0 T alg R0 P l s w) : Calls Try.prog 19 #[ptr T] w (fun e w' => ∃ v, e = .returned v ∧ OW w' w.heap.size 3 eInt v (leftM s.m) ∧ Kp w w') := by
  obtain ⟨⟨L, dv, a, b, c, d, e, f⟩, _⟩ := h
  rw [← b]
  exact left_any f.wn f.inv.mw
theorem RT.kp (h : RT w0 T alg R0 P l s w) : Kp w0 w := by
  obtain ⟨⟨L, dv, a, b, c, d, e, f⟩, _⟩ := h
  rw [← a]; exact f.wn.kp
theorem RT.r0 (h : RT w0 T alg R0 P l s w) : BC w R0 29 [.slice none 0 0, .slice none 0 0] := by
  obtain ⟨⟨L, dv, a, b, c, d, e, f⟩, _⟩ := h
  exact (f.wn.cs _ _ _ e).1
theorem RT.now (h : RT w0 T alg R0 P l s w) : w.cell? ⟨T, 3, none⟩ = some (.int .i64 s.now) := h.1.now
theorem RT.told (h : RT w0 T alg R0 P l s w) {tg : Nat} (ht : w.cell? ⟨T, 4, none⟩ = some (.slice (some ⟨tg, 0, none⟩) P.length P.length)) {k : Nat} (hk : k < P.length) :
    ∃ u, w.cell? ⟨tg, k, none⟩ = some u ∧ RD w eDone u (toldM s k) ∧ (toldM s k).length ≤ 5 ∧ ∀ Q cs, BC w Q 29 cs → tg ≠ Q ∧ u.ownBlock ≠ some Q := by
  obtain ⟨⟨L, dv, a, b, c, d, e, f⟩, _⟩ := h
  have hk' : k < L.nh := by rw [c]; exact hk
  obtain ⟨t1, t2, tv, hb, ho, -⟩ := f.wn.td (by omega)
  have t4 : w.cell? ⟨L.T, 4, none⟩ = some L.tov := f.wn.tb.1.cell 4
  rw [b, ht, t1] at t4
  injection t4 with t4
  injection t4 with t4
  injection t4 with t4
  injection t4 with t4
  subst t4
  have hl : (s.told k).length ≤ 5 := by
    have h1 := f.dl k
    have h2 := f.ok.ndl k
    rcases f.gh k hk' with ⟨_, _, x⟩ | ⟨_, _, x⟩ <;> omega
  refine ⟨tv k, by rw [hb.cell]; simp [hk'], (ho k hk').rd, by simpa [toldM] using hl, fun Q cs hQ => ⟨BC.ne hb hQ (by decide), OW.bc_ne (ho k hk') hQ (by decide)⟩⟩
def itR (alg : Nat) (P : List (List Dd)) (s : St) (k : Nat) : St := Nat.rec (motive := fun _ => St) s (fun _ x => rnd alg P x) k
def OrRel (w1 : World) (T alg R0 : Nat) (P : List (List Dd)) (l o : List Int) (iv : Value) (wx : World) : Prop :=
  ∃ k : Nat, k ≤ o.length ∧ iv = .int .i64 k ∧ RT w1 T alg R0 P l (ordS alg P (o.take k) (st0 l)) wx ∧ (ordS alg P (o.take k) (st0 l)).now ≤ k
def OtRel (w1 : World) (T alg R0 : Nat) (P : List (List Dd)) (l : List Int) (s1 : St) (g : Nat) (sv : Value) (wx : World) : Prop :=
  ∃ (b : Bool) (s : St) (k : Nat), sv = .bool b ∧ RT w1 T alg R0 P l s wx ∧ s = itR alg P s1 k ∧ (b = false → rnd alg P s = s) ∧ s.now ≤ 5000 ∧ (4000 - s.now) + (if b then 1 else 0) ≤ g
def InRel (w1 : World) (T alg R0 : Nat) (P : List (List Dd)) (l : List Int) (s : St) (sv iv : Value) (wx : World) : Prop :=
  ∃ (j : Nat) (fb : Bool) (s' : St), j ≤ P.length ∧ iv = .int .i64 j ∧ sv = .bool fb ∧ s' = (List.range j).foldl (stpL alg P) s ∧ (fb = true ↔ s.now < s'.now) ∧ RT w1 T alg R0 P l s' wx ∧ s.now ≤ s'.now ∧ (s'.now = s.now → s' = s) ∧ (s.now < s'.now → s.now < 4000) ∧ s'.now ≤ 5000
def SvRel (P : List (List Dd)) (s : St) (Q0 : Nat) (vl : Value) (W30 : World) (iv : Value) (wx : World) : Prop :=
  ∃ (k : Nat) (dv : Value) (acc : List (Nat × Nat × Dn)), k ≤ P.length ∧ iv = .int .i64 k ∧ acc = (List.range k).flatMap (toldM s) ∧ acc.length ≤ 5 * k ∧ BC wx Q0 29 [dv, vl] ∧ OW wx W30.heap.size 35 eDone dv acc ∧ Kf (fun b => b = Q0) W30 wx
def RunPost (alg : Nat) (l : List Int) (P : List (List Dd)) (o : List Int) (w : World) (e : Ending) (w' : World) : Prop :=
  ∃ s vd vl, e = .returned (.tuple #[.agg #[vd, vl], .int .i64 0]) ∧ FinR alg P (ordS alg P o (st0 l)) s ∧ RD w' eDone vd (doneL s P.length) ∧ RD w' eInt vl (leftM s.m) ∧ Kp w w'
set_option maxRecDepth 100000 in
set_option maxHeartbeats 8000000 in
theorem hrun_any (alg : Nat) (l : List Int) (P : List (List Dd)) (o : List Int) (vl vp vo : Value) (w : World) (hl : RD w eInt vl l) (hp : RDS w eDeed vp P) (ho : RD w eInt vo o) (hr : rgF alg l P o.length = 0) :
    Calls Try.prog 9 #[.int .i64 alg, vl, vp, vo] w (RunPost alg l P o w) := by
  have HRG := hide (fun W (k : Kp w W) => hright_any alg l P o vl vp vo W (hl.kp k) (hp.kp k) (ho.kp k))
  rw [hr] at HRG
  obtain ⟨ha, hn5, ok⟩ := rgF_ok hr
  have HOK := hide ok
  have hP4 := ok.len
  obtain ⟨A1, c1, rfl, hc1, _⟩ := hl.shape
  obtain ⟨A2, c2, pA, pN, pC, rfl, hc2, hm2, hpr⟩ := hp.fn
  obtain ⟨A3, c3, rfl, hc3, _⟩ := ho.shape
  have HL := hide hl
  have HO := hide ho
  have HPR := hide hpr
  have HA := hide (show 1 ≤ alg ∧ alg ≤ 4 by omega)
  have HK9 : Hid (∀ x ∈ l, x ≤ 9) := hide (fun x hx => (ok.keys x hx).2)
  have hl10 : l.length ≤ 10 := by
    have h1 := (mm0_MW l ok.keys ok.sort)
    have key : ∀ i, i < l.length → (i : Int) ≤ (mm0 l).ky (i + 1) := by
      intro i
      induction i with
      | zero => intro hi; have := ok.keys _ (List.getElem_mem hi); rw [mm0_ky hi]; omega
      | succ i ih =>
        intro hi
        have h2 := ih (by omega)
        have h3 := h1.ri (i + 1) (by show i + 1 < l.length + 2; omega) (by rw [mm0_ky (show i < l.length by omega)]; have := (ok.keys _ (List.getElem_mem (show i < l.length by omega))).2; omega)
        rw [mm0_nxI (by omega)] at h3
        omega
    by_cases h0 : l.length = 0
    · omega
    · have h2 := key (l.length - 1) (by omega)
      rw [mm0_ky (by omega)] at h2
      have := (ok.keys _ (List.getElem_mem (show l.length - 1 < l.length by omega))).2
      omega
  clear hl hp ho hr ha ok hpr
  obtain ⟨CM, HCM, hmk⟩ := run_mk (P := Try.prog) row_dones ⟨.slice none 0 0, rfl⟩ (zero_of info_dones rfl) P.length (by omega) (by simp [maxLen]; omega)
  have s1 : IntKind.i64.wrap ((l.length : Int) - 1) = (l.length : Int) - 1 := IntWalk.i64_in _ (by omega)
  go_enter Try.func9, Try.ntmps9
  go_wp2_with fail
  refine (HRG.out _ ((Kp.refl w).alloc)).mono ?_
  rintro e w1 ⟨rfl, kk1⟩
  have hbR : BC w1 w.heap.size 29 [.slice none 0 0, .slice none 0 0] := (BC.new w 29 [.slice none 0 0, .slice none 0 0]).kp kk1
  have kw1 : Kp w w1 := (Kp.refl w).alloc.trans kk1
  have HRW : Hid (w.heap.size < w1.heap.size) := hide hbR.lt
  obtain ⟨R0, hR0⟩ : ∃ R0, R0 = w.heap.size := ⟨_, rfl⟩
  rw [← hR0] at hbR ⊢
  have HR0 := hide hR0
  have HBR := hide hbR
  have HK1 := hide kw1
  have HST := hide (Bds.start l w1)
  clear hR0 hbR kk1 HRG
  go_wp2
  clear s1
  go_loopw [11, 12] (fun a b wr => BdRel l w1 b a wr) (fun a i wr => (intOf i + 1).toNat)
  case atStart => exact ⟨l.length, fun _ => w1.heap.size, _, Nat.le_refl _, rfl, rfl, rfl, HST.out⟩
  case round =>
    obtain ⟨c, Bf, K, hc, hK, rfl, rfl, hB⟩ := hrel
    by_cases h0 : c = 0
    · subst h0
      obtain rfl : K = -1 := by omega
      have HB0 := hide (hB.push HK9.out (by omega) (-1) rfl (by decide))
      have hbl := hB.kp.size
      clear hK hB
      unfold ptr at *
      go_wp2
      obtain ⟨W9, hW9⟩ : ∃ W9, W9 = ((wr.alloc (.cells #[.int .i64 (-1), .pointer (some ⟨Bf 1, 0, none⟩), .bool false, .bool false] 48)).alloc (.cells CM 26)).alloc (.cells #[.int .i64 alg, .pointer (some ⟨wr.heap.size, 0, none⟩), .slice none 0 0, .int .i64 0, .slice (some ⟨wr.heap.size + 1, 0, none⟩) P.length P.length] 53) := ⟨_, rfl⟩
      rw [← hW9]
      have hB9 : Bds l w1 0 (up Bf 0 wr.heap.size) W9 := by rw [hW9]; exact HB0.out.kpw ((Kp.refl _).alloc.alloc)
      have hT9 : BC W9 (wr.heap.size + 1 + 1) 53 [.int .i64 alg, .pointer (some ⟨wr.heap.size, 0, none⟩), .slice none 0 0, .int .i64 0, .slice (some ⟨wr.heap.size + 1, 0, none⟩) P.length P.length] := by rw [hW9]; exact BC.made [.cells #[.int .i64 (-1), .pointer (some ⟨Bf 1, 0, none⟩), .bool false, .bool false] 48, .cells CM 26, .cells #[.int .i64 alg, .pointer (some ⟨wr.heap.size, 0, none⟩), .slice none 0 0, .int .i64 0, .slice (some ⟨wr.heap.size + 1, 0, none⟩) P.length P.length] 53] wr 2 rfl
      have htg9 : BC W9 (wr.heap.size + 1) 26 (List.replicate P.length (.slice none 0 0)) := by
        have e := HCM.out
        rw [flat_nil] at e
        subst e
        rw [hW9]
        exact BC.made [.cells #[.int .i64 (-1), .pointer (some ⟨Bf 1, 0, none⟩), .bool false, .bool false] 48, .cells (List.replicate P.length (Value.slice none 0 0)).toArray 26, .cells #[.int .i64 alg, .pointer (some ⟨wr.heap.size, 0, none⟩), .slice none 0 0, .int .i64 0, .slice (some ⟨wr.heap.size + 1, 0, none⟩) P.length P.length] 53] wr 1 rfl
      have hR9 := HBR.out.kp hB9.kp
      have hwz : w1.heap.size ≤ wr.heap.size := hbl
      have eb0 : up Bf 0 wr.heap.size 0 = wr.heap.size := up_same _ _ _
      obtain ⟨Bg, hBg⟩ : ∃ Bg, Bg = up Bf 0 wr.heap.size := ⟨_, rfl⟩
      obtain ⟨T, hT⟩ : ∃ T, T = wr.heap.size + 1 + 1 := ⟨_, rfl⟩
      obtain ⟨tg, htg⟩ : ∃ tg, tg = wr.heap.size + 1 := ⟨_, rfl⟩
      rw [← hBg] at hB9 eb0
      obtain ⟨b0, hb0⟩ : ∃ b0, b0 = wr.heap.size := ⟨_, rfl⟩
      rw [← hT] at hT9 ⊢
      rw [← htg] at htg9 hT9
      rw [← hb0] at hT9 eb0
      have hTz : w1.heap.size ≤ T := by omega
      have htz : w1.heap.size ≤ tg := by omega
      have HB9 := hide hB9
      have HT9 := hide hT9
      have HTG := hide htg9
      have HR9 := hide hR9
      have HZ := hide (And.intro hTz htz)
      have HE0 := hide eb0
      have HTL := hide hT9.lt
      have HST2 : Hid (Hds (fun j => .slice (pA j) (pN j) (pC j)) W9 T alg b0 (.slice (some ⟨tg, 0, none⟩) P.length P.length) (.slice none 0 0) [] W9) := hide (Hds.start hT9)
      clear hW9 hB9 hT9 htg9 hR9 hwz eb0 hBg hT htg hb0 hTz htz hbl HB0 hmk HCM
      go_loopw [59] (fun iv wx => HdRel P.length (fun j => .slice (pA j) (pN j) (pC j)) W9 T alg b0 (.slice (some ⟨tg, 0, none⟩) P.length P.length) iv wx) (fun iv _ => P.length - (intOf iv).toNat)
      case atStart => exact ⟨0, _, [], Nat.zero_le _, rfl, rfl, HST2.out⟩
      case round =>
        obtain ⟨k, hv, hbs, hk, rfl, hbk, hH⟩ := hrel
        have hkw1 : Kp w1 wr := hH.kf.kp HB9.out.kp (fun b e => by have e : b = T := e; rw [e]; exact HZ.out.1)
        have hkw := HK1.out.trans hkw1
        by_cases hlt : k < P.length
        · obtain ⟨b, oo, e, _, x0, _⟩ := HPR.out k hlt
          have x0 := hkw.cell x0
          obtain ⟨xA, xN, xC, rfl⟩ := hH.ow.rd.slice
          have t2 : wr.cell? ⟨T, 2, none⟩ = some (.slice xA xN xC) := hH.tb.cell 2
          have HM1 : Hid ((hbs.length + [wr.heap.size].length) * 8 ≤ 140737488355328) := hide (by simp; omega)
          have HM2 : Hid (hbs.length + [wr.heap.size].length ≤ maxLen) := hide (by simp [maxLen]; omega)
          have HO2 := hide hH.ow
          have HSZ : Hid (W9.heap.size ≤ wr.heap.size) := hide hH.kf.size
          have HTB : Hid (∀ w3, ((wr.alloc (.cells #[.slice (pA k) (pN k) (pC k), .int .i64 0, .nilFunc, .pointer none, .pointer none, .bool false] 56)).alloc (.cells #[.pointer (some ⟨wr.heap.size, 0, none⟩)] 54)).grownBy w3 (Value.slice xA xN xC).ownBlock → w3.cell? ⟨T, 2, none⟩ = some (.slice xA xN xC) ∧ w3.frozen? ⟨T, 2, none⟩ = false) := hide (by
            intro w3 hg
            have h1 : BC w3 T 53 _ := (hH.tb.kp ((Kp.refl wr).alloc.alloc)).kf (F := fun b => (Value.slice xA xN xC).ownBlock = some b) (Kf.app (Kf.refl _ _) hg fun k e => .inl e) (fun e => by have := (hH.ow.lt T e).1; have := HTL.out; omega)
            exact ⟨h1.cell 2, h1.frozen 2⟩)
          have HPU : Hid (∀ hv' w3, OW w3 W9.heap.size 54 ePtr hv' (hbs ++ [wr.heap.size]) → ((wr.alloc (.cells #[.slice (pA k) (pN k) (pC k), .int .i64 0, .nilFunc, .pointer none, .pointer none, .bool false] 56)).alloc (.cells #[.pointer (some ⟨wr.heap.size, 0, none⟩)] 54)).grownBy w3 (Value.slice xA xN xC).ownBlock →
              Hds (fun j => .slice (pA j) (pN j) (pC j)) W9 T alg b0 (.slice (some ⟨tg, 0, none⟩) P.length P.length) hv' (hbs ++ [wr.heap.size]) (w3.setCell ⟨T, 2, none⟩ hv')) := hide (by
            intro hv' w3 ho hg
            subst hbk
            exact hH.push HTL.out ((Kp.refl _).alloc) ho hg)
          have hlti : (k : Int) < (P.length : Int) := by omega
          cases e
          clear hH hkw1 hkw
          go_wp2_with (at_builtin; (with_reducible refine list_app (B := W9.heap.size) (l := hbs) (m := [wr.heap.size]) row_hand (.slice xA xN xC) ?_ (.tmp 67) (.tmp 71) ?_ ?_ ?_ ?_ HM1.out HM2.out ?_ ?_); (with_reducible rfl); (with_reducible rfl); rfl; (exact (HO2.out.alloc _).alloc _); (show RD _ _ (.slice (some ⟨_, 0, none⟩) 1 1) _; (focus ((repeat (first | (with_reducible assumption) | exact RD.new1 _ rfl | (refine RD.new1e _ ?_ rfl; simp; done) | (with_reducible apply RD.alloc) | (with_reducible apply RD.drew) | (with_reducible apply RD.drewN) | ((with_reducible apply RD.belowR); (with_reducible assumption)))); done))); (exact Nat.le_trans HSZ.out ((Kp.refl wr).alloc.alloc).size); intro v3 w3 ho3 hg3 hat3; obtain ⟨x13, f13⟩ := HTB.out w3 hg3; obtain ⟨A5, N5, c5, rfl⟩ := ho3.rd.slice)
          go_roundw
          case rel => (repeat apply Exists.intro); exact ⟨⟨k + 1, _, hbs ++ [wr.heap.size], by omega, by go_num, by simp [hbk], HPU.out _ _ ho3 hg3⟩, rfl⟩
          case measure => simp [intOf]; omega
        · have HRT : Hid (RT w1 T alg R0 P l (st0 l) wr) := hide (by
            have e0 := HE0.out
            subst e0
            refine ⟨rn_start HOK.out HA.out HB9.out HR9.out HTG.out HZ.out.2 HZ.out.1 HT9.out (fun i hi => ?_) hH (by omega), tg, hH.tb.cell 4⟩
            obtain ⟨_, _, _, _, _, h⟩ := HPR.out i hi
            exact h.kp HK1.out)
          clear hH hkw hkw1
          go_wp2
          go_loopw [78] (fun iv wx => OrRel w1 T alg R0 P l o iv wx) (fun iv _ => o.length - (intOf iv).toNat)
          case atStart => exact ⟨0, Nat.zero_le _, rfl, HRT.out, Nat.zero_le _⟩
          case round =>
            obtain ⟨j, hj, rfl, hR, hnw⟩ := hrel
            by_cases hjl : j < o.length
            · obtain ⟨b, oo, e, _, x0⟩ := (HO.out.kp (HK1.out.trans hR.kp)).int hjl
              have htk := ordS_take alg P o (st0 l) j hjl
              obtain ⟨x, hx⟩ : ∃ x, x = o[j]'hjl := ⟨_, rfl⟩
              rw [← hx] at x0 htk
              have HTK := hide htk
              have HR := hide hR
              have HNW := hide hnw
              have s85 : IntKind.i64.wrap ((P.length : Int) - 1) = (P.length : Int) - 1 := IntWalk.i64_in _ (by omega)
              have hjli : (j : Int) < (o.length : Int) := by omega
              have HJL := hide hjl
              cases e
              clear hx htk hR hnw
              go_wp2_with fail
              refine (hwithin_any x 0 ((P.length : Int) - 1) _).mono ?_
              rintro e w3 ⟨rfl, rfl⟩
              by_cases hin : 0 ≤ x ∧ x ≤ (P.length : Int) - 1
              · have hb := hbt_t hin
                obtain ⟨i, rfl⟩ : ∃ i : Nat, x = (i : Int) := ⟨x.toNat, by omega⟩
                have hil : i < P.length := by omega
                have e1 := HTK.out.trans (if_pos ⟨by omega, by omega⟩)
                rw [Int.toNat_natCast] at e1
                have HTK1 := hide e1
                have HSP := hide (step_rt HR.out hil (by have := HNW.out; omega))
                have HLE := hide (stpO_le (alg := alg) (P := P) (s := ordS alg P (o.take j) (st0 l)) (i := i)).1
                rw [hb]
                clear hin hb e1 hil HTK
                unfold ptr at HSP
                go_wp2_with fail
                refine HSP.out.mono ?_
                rintro e w4 ⟨rfl, hR4⟩
                rw [← HTK1.out] at hR4
                have HR4 := hide hR4
                clear hR4
                go_wp2
                go_roundw
                case rel => (repeat apply Exists.intro); exact ⟨⟨j + 1, by have := HJL.out; omega, by go_num, HR4.out, by rw [HTK1.out]; have := HLE.out; have := HNW.out; omega⟩, rfl⟩
                case measure => simp [intOf]; have := HJL.out; omega
              · have hb := hbt_f hin
                have HTK1 := hide (HTK.out.trans (if_neg (fun h => hin ⟨h.1, by omega⟩)))
                rw [hb]
                clear hin hb HTK
                go_wp2
                go_roundw
                case rel => (repeat apply Exists.intro); exact ⟨⟨j + 1, by have := HJL.out; omega, by go_num, by rw [HTK1.out]; exact HR.out, by rw [HTK1.out]; have := HNW.out; omega⟩, rfl⟩
                case measure => simp [intOf]; have := HJL.out; omega
            · rw [List.take_of_length_le (by omega)] at hR hnw
              obtain ⟨s1, hs1⟩ : ∃ s1, s1 = ordS alg P o (st0 l) := ⟨_, rfl⟩
              rw [← hs1] at hR hnw
              have HS1 := hide hs1
              have HR1 := hide hR
              have HN1 : Hid (s1.now ≤ 5000) := hide (by omega)
              clear hs1 hR hnw HRT HST2 HT9 HTG HR9
              go_wp2
              go_loopg [18] 4001 (fun g sv wx => OtRel w1 T alg R0 P l s1 g sv wx)
              case atStart => exact ⟨true, s1, 0, rfl, HR1.out, rfl, (fun e => by cases e), HN1.out, (by simp)⟩
              case round =>
                obtain ⟨b, s, kk, rfl, hR, hit, hfin, hnow, hg⟩ := hrel
                cases b with
                | true =>
                  have HIT := hide hit
                  have HG1 := hide hg
                  have HNO := hide hnow
                  have HR := hide hR
                  clear hR hit hfin hnow hg HS1 HR1
                  go_wp2
                  go_loopw [18, 94] (fun sv iv wx => InRel w1 T alg R0 P l s sv iv wx) (fun _ iv _ => P.length - (intOf iv).toNat)
                  case atStart => exact ⟨0, false, s, Nat.zero_le _, rfl, rfl, rfl, by simp, HR.out, Nat.le_refl _, fun _ => rfl, fun h => absurd h (Nat.lt_irrefl _), HNO.out⟩
                  case round =>
                    obtain ⟨j, fb, s', hj, rfl, rfl, hs', hfb, hR, hle, heq, hlt4, hn5⟩ := hrel
                    by_cases hjl : j < P.length
                    · have t3 := hR.now
                      have HR := hide hR
                      have htk := rnd_take alg P s j
                      rw [← hs'] at htk
                      have hjli : (j : Int) < (P.length : Int) := by omega
                      have HX := hide (And.intro hfb (And.intro hle (And.intro heq (And.intro hlt4 (And.intro hn5 hjl)))))
                      by_cases h4 : s'.now < 4000
                      · have HTK : Hid (stpO alg P s' j = (List.range (j + 1)).foldl (stpL alg P) s) := hide (by rw [htk]; unfold stpL; rw [if_pos h4])
                        have HSP := hide (step_rt hR hjl (by omega))
                        have d4 : decide ((s'.now : Int) < 4000) = true := decide_eq_true (by omega)
                        cases hc : can P s' j with
                        | true =>
                          have hn : (stpO alg P s' j).now = s'.now + 1 := by
                            rw [stpO_can hc]; unfold stp; simp only []; split <;> rfl
                          rw [hc] at HSP
                          have HN := hide hn
                          have HH4 := hide h4
                          obtain ⟨s2, hs2⟩ : ∃ s2, s2 = stpO alg P s' j := ⟨_, rfl⟩
                          rw [← hs2] at HTK HSP HN
                          clear hR htk hfb hle heq hlt4 hn5 hs' h4 hc hn hs2 HR hjl
                          unfold ptr at HSP
                          go_wp2_with fail
                          refine HSP.out.mono ?_
                          rintro e w4 ⟨rfl, hR4⟩
                          have HR4 := hide hR4
                          clear hR4
                          go_wp2
                          go_roundw
                          case rel =>
                            skip
                            obtain ⟨a1, a2, a3, a4, a5, a6⟩ := HX.out
                            have a7 := HN.out
                            have a8 := HH4.out
                            exact ⟨j + 1, true, s2, by omega, by go_num, rfl, HTK.out, ⟨fun _ => by omega, fun _ => rfl⟩, HR4.out, by omega, fun h => by omega, fun _ => by omega, by omega⟩
                          case measure => simp [intOf]; have := HX.out.2.2.2.2.2; omega
                        | false =>
                          rw [stpO_cannot _ _ _ _ hc] at HTK HSP
                          rw [hc] at HSP
                          clear hR htk hfb hle heq hlt4 hn5 hs' h4 hc HR hjl
                          unfold ptr at HSP
                          go_wp2_with fail
                          refine HSP.out.mono ?_
                          rintro e w4 ⟨rfl, hR4⟩
                          have HR4 := hide hR4
                          clear hR4
                          go_wp2
                          go_roundw
                          case rel =>
                            skip
                            obtain ⟨a1, a2, a3, a4, a5, a6⟩ := HX.out
                            exact ⟨j + 1, fb, s', by omega, by go_num, rfl, HTK.out, a1, HR4.out, a2, a3, a4, a5⟩
                          case measure => simp [intOf]; have := HX.out.2.2.2.2.2; omega
                      · have HTK : Hid (s' = (List.range (j + 1)).foldl (stpL alg P) s) := hide (by rw [htk]; unfold stpL; rw [if_neg h4])
                        have d4 : decide ((s'.now : Int) < 4000) = false := decide_eq_false (by omega)
                        clear hR htk hfb hle heq hlt4 hn5 hs' h4 hjl
                        go_wp2
                        go_roundw
                        case rel =>
                          skip
                          obtain ⟨a1, a2, a3, a4, a5, a6⟩ := HX.out
                          exact ⟨j + 1, fb, s', by omega, by go_num, rfl, HTK.out, a1, HR.out, a2, a3, a4, a5⟩
                        case measure => simp [intOf]; have := HX.out.2.2.2.2.2; omega
                    · have hr : s' = rnd alg P s := by rw [hs', show j = P.length by omega]; rfl
                      have HREL : Hid (OtRel w1 T alg R0 P l s1 (gk - 1) (.bool fb) wr) := hide (by
                        have hg := HG1.out
                        simp only [if_true] at hg
                        refine ⟨fb, s', kk + 1, rfl, hR, ?_, fun e => ?_, hn5, ?_⟩
                        · rw [hr, HIT.out]; rfl
                        · have h1 : ¬ s.now < s'.now := fun h => by rw [hfb.2 h] at e; cases e
                          have h2 := heq (by omega)
                          rw [h2] at hr ⊢
                          exact hr.symm
                        · cases fb with
                          | true =>
                            have h1 := hfb.1 rfl
                            have h2 := hlt4 h1
                            simp only [if_true]
                            omega
                          | false =>
                            simp
                            omega)
                      have HGP : Hid (0 < gk) := hide (by have hg := HG1.out; simp only [if_true] at hg; omega)
                      have hjli : ¬ (j : Int) < (P.length : Int) := by omega
                      clear hR hle heq hlt4 hn5 hs' hfb hr hjl
                      go_wp2
                      go_roundg (gk - 1)
                      case measure => have := HGP.out; omega
                      case rel => exact HREL.out
                | false =>
                  have hfin := hfin rfl
                  have HFIN : Hid (FinR alg P s1 s) := hide ⟨kk, hit, hfin⟩
                  have HR := hide hR
                  have HLF := hide (left_rt hR)
                  clear hfin hit hnow hg hR HR1
                  unfold ptr at HLF
                  go_wp2_with fail
                  refine HLF.out.mono ?_
                  rintro e w2 ⟨vl, rfl, hov, hk2⟩
                  obtain ⟨lA, lN, lC, rfl⟩ := hov.rd.slice
                  have HOV := hide hov
                  have HR2 := hide (HR.out.kpw hk2)
                  have HKW2 : Hid (Kp w w2) := hide (HK1.out.trans (HR.out.kp.trans hk2))
                  have HVR : Hid (∀ k, (Value.slice lA lN lC).ownBlock = some k → R0 < k ∧ k < w2.heap.size) := hide (fun k e => by
                    have h1 := hov.lt k e
                    have h2 := HR.out.r0.lt
                    exact ⟨by omega, h1.2⟩)
                  obtain ⟨tg2, ht4⟩ := HR2.out.2
                  have HQB : Hid (BC (w2.alloc (.cells #[.slice none 0 0, .slice lA lN lC] 29)) w2.heap.size 29 [.slice none 0 0, .slice lA lN lC]) := hide (BC.new w2 29 [.slice none 0 0, .slice lA lN lC])
                  have HKA : Hid (Kp w2 (w2.alloc (.cells #[.slice none 0 0, .slice lA lN lC] 29))) := hide (Kp.refl w2).alloc
                  have ht5 := HKA.out.cell ht4
                  clear hov hk2 HLF
                  go_wp2
                  have HR3 := hide (HR2.out.kpw HKA.out)
                  have HT5 := hide ht5
                  have HVR2 := HVR
                  obtain ⟨W30, hW30⟩ : ∃ W30, W30 = w2.alloc (.cells #[.slice none 0 0, .slice lA lN lC] 29) := ⟨_, rfl⟩
                  obtain ⟨Q0, hQ0⟩ : ∃ Q0, Q0 = w2.heap.size := ⟨_, rfl⟩
                  rw [← hW30] at HQB HKA HR3 HT5 ⊢
                  rw [← hQ0] at HQB HVR ⊢
                  have HKW3 : Hid (Kp w W30) := hide (HKW2.out.trans HKA.out)
                  have HVL : Hid (RD W30 eInt (.slice lA lN lC) (leftM s.m)) := hide (HOV.out.rd.kp HKA.out)
                  have HRQ : Hid (R0 < Q0) := hide (by have := HR2.out.r0.lt; omega)
                  have HRB : Hid (BC W30 R0 29 [.slice none 0 0, .slice none 0 0]) := hide (HR2.out.r0.kp HKA.out)
                  clear hW30 hQ0 HOV HR2 HKW2 ht4 ht5 HVR2 HKA HR
                  go_loopw [116] (fun iv wx => SvRel P s Q0 (.slice lA lN lC) W30 iv wx) (fun iv _ => P.length - (intOf iv).toNat)
                  case atStart => exact ⟨0, _, [], Nat.zero_le _, rfl, rfl, Nat.zero_le _, HQB.out, OW.nil, Kf.refl _ _⟩
                  case round =>
                    obtain ⟨k, dv, acc, hk, rfl, hacc, hal, hbc, how, hkf⟩ := hrel
                    obtain ⟨dA, dN, dC, rfl⟩ := how.rd.slice
                    by_cases hlt : k < P.length
                    · obtain ⟨u, xu, hu, hul, hne⟩ := HR3.out.told HT5.out hlt
                      obtain ⟨n1, n2⟩ := hne _ _ HQB.out
                      have x0 := hkf.cell (p := ⟨tg2, k, none⟩) n1 xu
                      have hu2 := hu.kf hkf (fun _ j e1 e2 => n2 (by rw [e1]; exact congrArg some e2))
                      obtain ⟨uA, uN, uC, rfl⟩ := hu.slice
                      have x1 : wr.cell? ⟨Q0, 0, none⟩ = some (.slice dA dN dC) := hbc.cell 0
                      have HM1 : Hid ((acc.length + (toldM s k).length) * 40 ≤ 140737488355328) := hide (by omega)
                      have HM2 : Hid (acc.length + (toldM s k).length ≤ maxLen) := hide (by simp [maxLen]; omega)
                      have HOW := hide how
                      have HU := hide hu2
                      have HSZ : Hid (W30.heap.size ≤ wr.heap.size) := hide hkf.size
                      have hdq : (Value.slice dA dN dC).ownBlock ≠ some Q0 := OW.bc_ne how hbc (by decide)
                      have HTB : Hid (∀ w3, wr.grownBy w3 (Value.slice dA dN dC).ownBlock → w3.cell? ⟨Q0, 0, none⟩ = some (.slice dA dN dC) ∧ w3.frozen? ⟨Q0, 0, none⟩ = false) := hide (by
                        intro w3 hg
                        have h1 : BC w3 Q0 29 _ := hbc.kf (F := fun b => (Value.slice dA dN dC).ownBlock = some b) (Kf.app (Kf.refl _ _) hg fun k e => .inl e) hdq
                        exact ⟨h1.cell 0, h1.frozen 0⟩)
                      have HPU : Hid (∀ v' w3, OW w3 W30.heap.size 35 eDone v' (acc ++ toldM s k) → wr.grownBy w3 (Value.slice dA dN dC).ownBlock → SvRel P s Q0 (.slice lA lN lC) W30 (.int .i64 ((k + 1 : Nat) : Int)) (w3.setCell ⟨Q0, 0, none⟩ v')) := hide (by
                        intro v' w3 ho hg
                        have h1 : BC w3 Q0 29 _ := hbc.kf (F := fun b => (Value.slice dA dN dC).ownBlock = some b) (Kf.app (Kf.refl _ _) hg fun k e => .inl e) hdq
                        refine ⟨k + 1, v', acc ++ toldM s k, hlt, rfl, by rw [hacc, List.range_succ, List.flatMap_append]; simp, by rw [List.length_append]; omega, h1.set (j := 0) (u := v'), ho.setCell (OW.bc_ne ho h1 (by decide)) _, ?_⟩
                        exact (Kf.app hkf hg fun j e => .inr (how.lt j e).1).set (.inl rfl))
                      have hlti : (k : Int) < (P.length : Int) := by omega
                      have HLT := hide hlt
                      clear xu hu hul hne n1 n2 hu2 how hkf hbc hacc hal hdq hlt
                      go_wp2_with (at_builtin; (with_reducible refine list_app (B := W30.heap.size) (l := acc) (m := (toldM s k)) row_done (.slice dA dN dC) ?_ (.tmp 121) (.tmp 122) ?_ ?_ ?_ ?_ HM1.out HM2.out ?_ ?_); (with_reducible rfl); (with_reducible rfl); rfl; (exact HOW.out); (exact HU.out); (exact HSZ.out); intro v3 w3 ho3 hg3 hat3; obtain ⟨x13, f13⟩ := HTB.out w3 hg3; obtain ⟨A5, N5, c5, rfl⟩ := ho3.rd.slice)
                      go_roundw
                      case rel =>
                        have h1 := HPU.out _ _ ho3 hg3
                        obtain ⟨k2, a1, a2, a3, a4, a5⟩ := h1
                        exact ⟨k2, a1, a2, a3, by rw [← a4]; go_num, a5⟩
                      case measure => simp [intOf]; have := HLT.out; omega
                    · have e0 : acc = doneL s P.length := by rw [hacc, show k = P.length by omega]; rfl
                      have HDN := hide (show OW wr W30.heap.size 35 eDone (.slice dA dN dC) (doneL s P.length) by rw [← e0]; exact how)
                      have x0 : wr.cell? ⟨Q0, 0, none⟩ = some (.slice dA dN dC) := hbc.cell 0
                      have x1 : wr.cell? ⟨Q0, 1, none⟩ = some (.slice lA lN lC) := hbc.cell 1
                      have hrw : BC wr R0 29 [.slice none 0 0, .slice none 0 0] := HRB.out.kf hkf (by have := HRQ.out; show ¬ R0 = Q0; omega)
                      have y0 := hrw.cell 0
                      have y1 := hrw.cell 1
                      have g0 := hrw.frozen 0
                      have g1 := hrw.frozen 1
                      have HF : Hid (RunPost alg l P o w (.returned (.tuple #[.agg #[.slice dA dN dC, .slice lA lN lC], .int .i64 0])) ((wr.setCell ⟨R0, 0, none⟩ (.slice dA dN dC)).setCell ⟨R0, 1, none⟩ (.slice lA lN lC))) := hide (by
                        have k1 : Kp w wr := hkf.kp HKW3.out (fun b e => by have e : b = Q0 := e; have := HRQ.out; have := HR0.out; omega)
                        have k2 := (k1.set (p := ⟨R0, 0, none⟩) (show w.heap.size ≤ R0 by rw [HR0.out]; exact Nat.le_refl _) (.slice dA dN dC)).set (p := ⟨R0, 1, none⟩) (show w.heap.size ≤ R0 by rw [HR0.out]; exact Nat.le_refl _) (.slice lA lN lC)
                        have hvl : RD wr eInt (.slice lA lN lC) (leftM s.m) := HVL.out.kf hkf (fun _ j e1 e2 => by have e2 : j = Q0 := e2; have := (HVR.out j e1).2; omega)
                        have hq : ∀ p : Addr, p.block = R0 → (Value.slice dA dN dC).ownBlock ≠ some p.block ∧ (Value.slice lA lN lC).ownBlock ≠ some p.block := fun p hp => by
                          rw [hp]
                          refine ⟨fun e => ?_, fun e => ?_⟩
                          · have := (HDN.out.lt R0 e).1; have := HRB.out.lt; omega
                          · have := (HVR.out R0 e).1; omega
                        have kfr : Kf (fun b => b = R0) wr ((wr.setCell ⟨R0, 0, none⟩ (.slice dA dN dC)).setCell ⟨R0, 1, none⟩ (.slice lA lN lC)) := Kf.set (p := ⟨R0, 1, none⟩) (Kf.set (p := ⟨R0, 0, none⟩) (Kf.refl _ wr) (.inl rfl)) (.inl rfl)
                        refine ⟨s, _, _, rfl, by rw [← HS1.out]; exact HFIN.out, ?_, ?_, k2⟩
                        · exact HDN.out.rd.kf kfr (fun _ j e1 e2 => by have e2 : j = R0 := e2; subst e2; exact (hq ⟨j, 0, none⟩ rfl).1 e1)
                        · exact hvl.kf kfr (fun _ j e1 e2 => by have e2 : j = R0 := e2; subst e2; exact (hq ⟨j, 0, none⟩ rfl).2 e1))
                      have HBF : Hid (BC ((wr.setCell ⟨R0, 0, none⟩ (.slice dA dN dC)).setCell ⟨R0, 1, none⟩ (.slice lA lN lC)) R0 29 [.slice dA dN dC, .slice lA lN lC]) := hide ((hrw.set (j := 0) (u := .slice dA dN dC)).set (j := 1) (u := .slice lA lN lC))
                      have hlti : ¬ (k : Int) < (P.length : Int) := by omega
                      clear e0 hacc hal hbc how hkf hrw hlt
                      go_wp2
                      refine bodyPost_ret (v := .tuple #[.agg #[.slice dA dN dC, .slice lA lN lC], .int .i64 0]) ?_ ?_ HF.out
                      · exact results_cell2 rfl _ _ R0 29 _ (0, 0) _ _ rfl rfl HBF.out Try.underlying29 rfl info_told2
                      · rfl
    · obtain ⟨d, rfl⟩ : ∃ d, c = d + 1 := ⟨c - 1, by omega⟩
      obtain rfl : K = (d : Int) := by omega
      have hd : d < l.length := by omega
      obtain ⟨b, oo, e, _, x0⟩ := (HL.out.kp (HK1.out.trans hB.kp)).int hd
      cases e
      have HB0 := hide (hB.push HK9.out (by omega) (l[d]) (mm0_ky hd).symm (by have := HK9.out _ (List.getElem_mem hd); omega))
      obtain ⟨x, hx⟩ : ∃ x, x = l[d]'hd := ⟨_, rfl⟩
      rw [← hx] at x0 HB0
      have s1 : IntKind.i64.wrap ((d : Int) - 1) = (d : Int) - 1 := IntWalk.i64_in _ (by omega)
      have hdl : (d : Int) < (l.length : Int) := by omega
      have hd0 : (0 : Int) ≤ (d : Int) := by omega
      clear hK hB hx h0
      unfold ptr at *
      go_wp2
      go_roundw
      case rel => exact ⟨d, _, _, by omega, rfl, rfl, by unfold ptr; rw [up_same], HB0.out⟩
      case measure => simp [intOf]
end Go.Proofs.Ytoihdnekkgpcoaa
namespace Go.Proofs.Ytoihdnekkgpcoaa
open Go.ChangeShapes Go.WideShapes Go.ChangeAt Go.RowKit
set_option linter.unusedVariables false
set_option linter.unusedSimpArgs false

set_option maxRecDepth 100000 in
set_option maxHeartbeats 2000000 in
theorem hrun_bad (algo : Int) (l : List Int) (P : List (List Dd)) (o : List Int) (vl vp vo : Value) (w : World) (hl : RD w eInt vl l) (hp : RDS w eDeed vp P) (ho : RD w eInt vo o) (hr : rgF algo l P o.length ≠ 0) :
    Calls Try.prog 9 #[.int .i64 algo, vl, vp, vo] w (fun e w' => e = .returned (.tuple #[.agg #[.slice none 0 0, .slice none 0 0], .int .i64 (rgF algo l P o.length)]) ∧ Kp w w') := by
  have HRG := hide (fun W (k : Kp w W) => hright_any algo l P o vl vp vo W (hl.kp k) (hp.kp k) (ho.kp k))
  obtain ⟨R, hR⟩ : ∃ R, R = rgF algo l P o.length := ⟨_, rfl⟩
  rw [← hR] at HRG hr ⊢
  have d1 : (R != 0) = true := by simpa using hr
  clear hl hp ho hR hr
  go_enter Try.func9, Try.ntmps9
  go_wp2_with fail
  refine (HRG.out _ ((Kp.refl w).alloc)).mono ?_
  rintro e w1 ⟨rfl, kk1⟩
  have hbR : BC w1 w.heap.size 29 [.slice none 0 0, .slice none 0 0] := (BC.new w 29 [.slice none 0 0, .slice none 0 0]).kp kk1
  have kw1 : Kp w w1 := (Kp.refl w).alloc.trans kk1
  have hge : w.heap.size ≤ w.heap.size := Nat.le_refl _
  obtain ⟨R0, hR0⟩ : ∃ R0, R0 = w.heap.size := ⟨_, rfl⟩
  rw [← hR0] at hbR ⊢
  have HF : Hid (Kp w ((w1.setCell ⟨R0, 0, none⟩ (.slice none 0 0)).setCell ⟨R0, 1, none⟩ (.slice none 0 0))) := hide ((kw1.set (p := ⟨R0, 0, none⟩) (show w.heap.size ≤ R0 by omega) (.slice none 0 0)).set (p := ⟨R0, 1, none⟩) (show w.heap.size ≤ R0 by omega) (.slice none 0 0))
  have HBF : Hid (BC ((w1.setCell ⟨R0, 0, none⟩ (.slice none 0 0)).setCell ⟨R0, 1, none⟩ (.slice none 0 0)) R0 29 [.slice none 0 0, .slice none 0 0]) := hide ((hbR.set (j := 0) (u := .slice none 0 0)).set (j := 1) (u := .slice none 0 0))
  have y0 : w1.cell? ⟨R0, 0, none⟩ = some (.slice none 0 0) := hbR.cell 0
  have y1 : w1.cell? ⟨R0, 1, none⟩ = some (.slice none 0 0) := hbR.cell 1
  have g0 := hbR.frozen 0
  have g1 := hbR.frozen 1
  clear hR0 hbR kk1 HRG kw1 hge
  go_wp2
  refine bodyPost_ret (v := .tuple #[.agg #[.slice none 0 0, .slice none 0 0], .int .i64 R]) ?_ ?_ ⟨rfl, HF.out⟩
  · exact results_cell2 rfl _ _ R0 29 _ (0, 0) _ _ rfl rfl HBF.out Try.underlying29 rfl info_told2
  · rfl
end Go.Proofs.Ytoihdnekkgpcoaa
namespace Go.Proofs.Ytoihdnekkgpcoaa
open Go.ChangeShapes Go.WideShapes Go.ChangeAt Go.RowKit
set_option linter.unusedVariables false
set_option linter.unusedSimpArgs false

def btw (n lo hi : Int) : Bool := decide (lo ≤ n ∧ n ≤ hi)
theorem btw_iff (n lo hi : Int) : btw n lo hi = true ↔ lo ≤ n ∧ n ≤ hi := by simp [btw]
theorem btw_f_iff (n lo hi : Int) : btw n lo hi = false ↔ ¬ (lo ≤ n ∧ n ≤ hi) := by simp [btw]
theorem btw_cases (n lo hi : Int) : (btw n lo hi = true ∧ lo ≤ n ∧ n ≤ hi) ∨ (btw n lo hi = false ∧ (n < lo ∨ hi < n)) := by
  by_cases h : lo ≤ n ∧ n ≤ hi
  · exact .inl ⟨(btw_iff _ _ _).2 h, h⟩
  · exact .inr ⟨(btw_f_iff _ _ _).2 h, by omega⟩

theorem between_any (n lo hi : Int) (w : World) :
    Calls Try.prog 21 #[.int .i64 n, .int .i64 lo, .int .i64 hi] w fun e w' => e = .returned (.bool (btw n lo hi)) ∧ w = w' := by
  by_cases h1 : lo ≤ n
  · by_cases h2 : n ≤ hi
    · go_enter Try.func21, Try.ntmps21
      go_wp2
      go_ret
      exact ⟨by simp [btw]; omega, rfl⟩
    · go_enter Try.func21, Try.ntmps21
      go_wp2
      go_ret
      exact ⟨by simp [btw]; omega, rfl⟩
  · go_enter Try.func21, Try.ntmps21
    go_wp2
    go_ret
    exact ⟨by simp [btw]; omega, rfl⟩
theorem between_to (n lo hi : Int) (b : Bool) (w : World) (h : btw n lo hi = b) :
    Calls Try.prog 21 #[.int .i64 n, .int .i64 lo, .int .i64 hi] w fun e w' => e = .returned (.bool b) ∧ w = w' := by
  have := between_any n lo hi w
  rwa [h] at this
def mrFrom (last : Int) : List IP → Int
  | [] => 0
  | p :: t => if btw p.1 (last + 1) 1000000 then mrFrom p.1 t else 3
def mapRight (l : List IP) : Int := if l.length > 200 then 2 else mrFrom (-1) l
theorem mrFrom_drop (l : List IP) (k : Nat) (h : k < l.length) (last : Int) : mrFrom last (l.drop k) = if btw l[k].1 (last + 1) 1000000 then mrFrom l[k].1 (l.drop (k+1)) else 3 := by
  rw [List.drop_eq_getElem_cons h, mrFrom]
theorem mrFrom_end (l : List IP) (k : Nat) (h : ¬ k < l.length) (last : Int) : mrFrom last (l.drop k) = 0 := by
  rw [List.drop_of_length_le (by omega)]; rfl

def MRel (l : List IP) (w : World) (v i : Value) (wr : World) : Prop :=
  ∃ (k : Nat) (last : Int), k ≤ l.length ∧ i = .int .i64 k ∧ v = .int .i64 last ∧ -1 ≤ last ∧ last ≤ 1000000 ∧ mrFrom last (l.drop k) = mrFrom (-1) l ∧ Below w.heap.size w wr

theorem mapRight_len (l : List IP) (h : mapRight l = 0) : l.length ≤ 200 := by
  unfold mapRight at h
  split at h
  · omega
  · omega

def CRel (l : List IP) (w : World) (i : Value) (wr : World) : Prop :=
  ∃ (k : Nat) (last : Int), k ≤ l.length ∧ i = .int .i64 k ∧ -1 ≤ last ∧ last ≤ 1000000 ∧ (k = 0 → last = -1) ∧ (∀ h : k - 1 < l.length, 0 < k → last = l[k-1].1 ∧ 0 ≤ last) ∧ mrFrom last (l.drop k) = mrFrom (-1) l ∧ Below w.heap.size w wr

end Go.Proofs.Ytoihdnekkgpcoaa
namespace Go.Proofs.Ytoihdnekkgpcoaa
open Go.ChangeShapes Go.WideShapes Go.ChangeAt Go.RowKit
set_option linter.unusedVariables false
set_option linter.unusedSimpArgs false

theorem eq_of_take {α : Type} {l m : List α} (hl : l.length = m.length) (h : ∀ j (h1 : j < l.length) (h2 : j < m.length), l[j] = m[j]) : l = m :=
  List.ext_getElem hl h

def SRel {α : Type} (l m : List α) (w : World) (i : Value) (wr : World) : Prop :=
  ∃ k : Nat, k ≤ l.length ∧ i = .int .i64 k ∧ (∀ j (h1 : j < l.length) (h2 : j < m.length), j < k → l[j] = m[j]) ∧ Below w.heap.size w wr
theorem SRel.on {α : Type} {l m : List α} {w wr' : World} {k : Nat} (h1 : k < l.length) (h2 : k < m.length) (h : ∀ j (h1 : j < l.length) (h2 : j < m.length), j < k → l[j] = m[j]) (he : l[k] = m[k])
    (hb : Below w.heap.size w wr') : SRel l m w (.int .i64 (k + 1 : Nat)) wr' :=
  ⟨k + 1, h1, rfl, fun j a b hj => by
    rcases Nat.lt_or_ge j k with hj' | hj'
    · exact h j a b hj'
    · obtain rfl : j = k := by omega
      exact he, hb⟩

set_option maxHeartbeats 400000 in
theorem sameInts_any (l m : List Int) (v u : Value) (w : World) (hl : RD w eInt v l) (hm : RD w eInt u m) :
    Calls Try.prog 20 #[v, u] w (Ret (.bool (decide (l = m))) w) := by
  obtain ⟨A, c, rfl, hc, hc'⟩ := hl.shape
  obtain ⟨A2, c2, rfl, hc2, hc2'⟩ := hm.shape
  have HL := hide hl
  have HM := hide hm
  clear hl hm
  by_cases hlen : l.length = m.length
  · have hb : ((l.length : Int) == (m.length : Int)) = true := by simp; omega
    have hn : ((l.length : Int) != (m.length : Int)) = false := by simp; omega
    have hlen' := hide hlen
    have g1 : l.length ≤ m.length := by omega
    have g2 : m.length ≤ l.length := by omega
    clear hlen
    go_enter Try.func20, Try.ntmps20
    go_wp2
    go_loopw [13] (SRel l m w) (fun i wr => l.length - (intOf i).toNat)
    case atStart => exact ⟨0, by omega, rfl, fun _ _ _ h => by omega, Below.refl _ _⟩
    case round =>
      obtain ⟨k, hk, rfl, hall, hbel⟩ := hrel
      have HA := hide hall
      clear hall
      by_cases hlt : k < l.length
      · obtain ⟨b, o, rfl, hb, c0⟩ := (HL.out.below hbel).int hlt
        obtain ⟨b2, o2, rfl, hb2, d0⟩ := (HM.out.below hbel).int (k := k) (by omega)
        have hlt2 : k < m.length := by omega
        by_cases he : l[k] = m[k]
        · have e1 : (l[k] != m[k]) = false := by simp [he]
          have he' := hide he
          clear he
          go_wp2_with fail
          go_quiet (fail)
          go_wp2
          go_roundw
          case rel => exact SRel.on hlt hlt2 HA.out he'.out (by repeat' (first | exact Below.refl _ _ | (with_reducible assumption) | apply Below.drew | apply below_drewN | apply Below.alloc | apply Below.setCell)
                                                                all_goals (first | omega | (simp; omega) | (simp; done)))
          case measure => simp [intOf]; omega
        · have hf : decide (l = m) = false := by
            simp only [decide_eq_false_iff_not]
            rintro rfl
            exact he rfl
          have e1 : (l[k] != m[k]) = true := by simp [he]
          have hf' := hide hf
          clear he hf
          go_wp2_with fail
          go_quiet (fail)
          go_wp2
          go_ret
          exact ⟨by rw [hf'.out]; rfl, (by repeat' (first | exact Below.refl _ _ | (with_reducible assumption) | apply Below.drew | apply below_drewN | apply Below.alloc | apply Below.setCell)
                                           all_goals (first | omega | (simp; omega) | (simp; done)))⟩
      · have ht : decide (l = m) = true := by
          simp only [decide_eq_true_eq]
          exact eq_of_take hlen'.out fun j a b => HA.out j a b (by omega)
        have ht' := hide ht
        clear ht
        go_wp2
        go_ret
        exact ⟨by rw [ht'.out]; rfl, hbel⟩
  · have hb : ((l.length : Int) == (m.length : Int)) = false := by simp; omega
    have hn : ((l.length : Int) != (m.length : Int)) = true := by simp; omega
    go_enter Try.func20, Try.ntmps20
    go_wp2
    go_ret
    exact ⟨by rw [decide_eq_false (fun h => hlen (by rw [h]))]; rfl, Below.refl _ _⟩
theorem sameInts_to (l m : List Int) (r : Bool) (v u : Value) (w : World) (hl : RD w eInt v l) (hm : RD w eInt u m) (h : decide (l = m) = r) :
    Calls Try.prog 20 #[v, u] w (Ret (.bool r) w) := by
  subst h
  exact sameInts_any l m v u w hl hm
end Go.Proofs.Ytoihdnekkgpcoaa
namespace Go.Proofs.Ytoihdnekkgpcoaa
open Go.ChangeShapes Go.WideShapes Go.ChangeAt Go.RowKit
set_option linter.unusedVariables false
set_option linter.unusedSimpArgs false

theorem kyOk_of {l : List Int} (h1 : ∀ x ∈ l, 0 ≤ x ∧ x ≤ 9) (h2 : l.Pairwise (· < ·)) : kyOk l l.length := by
  intro i hi
  have hg : ∀ i (hi : i < l.length), l.getD i 0 = l[i] := fun i hi => by simp [List.getD_eq_getElem?_getD, hi]
  refine ⟨by rw [hg i hi]; exact h1 _ (List.getElem_mem hi), fun h0 => ?_⟩
  rw [hg i hi, hg (i - 1) (by omega)]
  exact List.pairwise_iff_getElem.1 h2 (i - 1) i (by omega) hi (by omega)
theorem rgF_of {algo : Int} {l : List Int} {P : List (List Dd)} {n : Nat} (h1 : 1 ≤ algo ∧ algo ≤ 4) (h2 : n ≤ 500) (h : OkIn l P) : rgF algo l P n = 0 := by
  unfold rgF
  rw [if_neg (fun hh => hh h1), if_neg (fun hh => by rcases hh with hh | hh | hh; have := h.len; omega; omega; exact hh h.len2), if_pos ⟨kyOk_of h.keys h.sort, h.deeds⟩]
theorem rnd_stop {alg : Nat} {P : List (List Dd)} {s : St} (h : ∀ i, i < P.length → can P s i = false) : rnd alg P s = s := by
  unfold rnd
  have key : ∀ l : List Nat, (∀ i ∈ l, i < P.length) → l.foldl (stpL alg P) s = s := by
    intro l
    induction l with
    | nil => intro _; rfl
    | cons a t ih =>
      intro hl
      rw [List.foldl_cons]
      have e : stpL alg P s a = s := by
        unfold stpL
        split
        · exact stpO_cannot _ _ _ _ (h a (hl a (by simp)))
        · rfl
      rw [e]
      exact ih fun i hi => hl i (by simp [hi])
  exact key _ fun i hi => List.mem_range.1 hi
theorem two_of {p : Nat → Prop} (h0 : p 0) (h1 : p 1) : ∀ i, i < 2 → p i := by
  intro i hi
  have : i = 0 ∨ i = 1 := by omega
  rcases this with rfl | rfl
  · exact h0
  · exact h1
def Pl : List (List Dd) := [[⟨1, 5⟩], [⟨3, 5⟩]]
def bl : St := itR 1 Pl (ordS 1 Pl [0, 0, 0, 0, 0] (st0 [3])) 12
theorem bl_fin : FinR 1 Pl (ordS 1 Pl [0, 0, 0, 0, 0] (st0 [3])) bl := ⟨12, rfl, rnd_stop (two_of (p := fun i => can Pl bl i = false) (by decide +kernel) (by decide +kernel))⟩
theorem bl_done : doneL bl 2 = [(0, 0, ⟨0, 4, true⟩), (1, 0, ⟨5, 9, true⟩)] := by kernel_rfl
theorem bl_left : leftM bl.m = [3, 5] := by decide +kernel
def Pn : List (List Dd) := [[⟨1, 1⟩], [⟨1, 2⟩]]
def bn : St := itR 4 Pn (ordS 4 Pn [0, 0, 1, 1, 0, 1] (st0 [])) 12
theorem bn_fin : FinR 4 Pn (ordS 4 Pn [0, 0, 1, 1, 0, 1] (st0 [])) bn := ⟨12, rfl, rnd_stop (two_of (p := fun i => can Pn bn i = false) (by decide +kernel) (by decide +kernel))⟩
theorem bn_done : doneL bn 2 = [(0, 0, ⟨0, 4, true⟩), (1, 0, ⟨2, 5, true⟩)] := by kernel_rfl
theorem bn_left : leftM bn.m = [2] := by decide +kernel
theorem Pl_ok : OkIn [3] Pl := ⟨by decide, by decide, by decide, by decide, by intro x hx d hd; simp [Pl] at hx; rcases hx with rfl | rfl <;> simp at hd <;> subst hd <;> simp [okD]⟩
theorem Pn_ok : OkIn [] Pn := ⟨by decide, by decide, by decide, by decide, by intro x hx d hd; simp [Pn] at hx; rcases hx with rfl | rfl <;> simp at hd <;> subst hd <;> simp [okD]⟩
def RunIs (dn : List (Nat × Nat × Dn)) (lf : List Int) (w : World) (e : Ending) (w' : World) : Prop := ∃ vd vl, e = .returned (.tuple #[.agg #[vd, vl], .int .i64 0]) ∧ RD w' eDone vd dn ∧ RD w' eInt vl lf ∧ Kp w w'
set_option maxRecDepth 100000 in
theorem run_lv (vl vp vo : Value) (w : World) (hl : RD w eInt vl [3]) (hp : RDS w eDeed vp Pl) (ho : RD w eInt vo [0, 0, 0, 0, 0]) : Calls Try.prog 9 #[.int .i64 1, vl, vp, vo] w (RunIs [(0, 0, ⟨0, 4, true⟩), (1, 0, ⟨5, 9, true⟩)] [3, 5] w) := by
  refine (hrun_any 1 [3] Pl [0, 0, 0, 0, 0] vl vp vo w hl hp ho (rgF_of (by decide) (by decide) Pl_ok)).mono ?_
  rintro e w' ⟨s, vd, vf, rfl, hf, h1, h2, hk⟩
  have e1 := fin_one 1 Pl _ s bl hf bl_fin
  subst e1
  rw [bl_left] at h2
  have e2 : doneL bl Pl.length = _ := bl_done
  rw [e2] at h1
  exact ⟨vd, vf, rfl, h1, h2, hk⟩
set_option maxRecDepth 100000 in
theorem run_nv (vp vo : Value) (w : World) (hp : RDS w eDeed vp Pn) (ho : RD w eInt vo [0, 0, 1, 1, 0, 1]) : Calls Try.prog 9 #[.int .i64 4, .slice none 0 0, vp, vo] w (RunIs [(0, 0, ⟨0, 4, true⟩), (1, 0, ⟨2, 5, true⟩)] [2] w) := by
  refine (hrun_any 4 [] Pn [0, 0, 1, 1, 0, 1] (.slice none 0 0) vp vo w RD.nil hp ho (rgF_of (by decide) (by decide) Pn_ok)).mono ?_
  rintro e w' ⟨s, vd, vf, rfl, hf, h1, h2, hk⟩
  have e1 := fin_one 4 Pn _ s bn hf bn_fin
  subst e1
  rw [bn_left] at h2
  have e2 : doneL bn Pn.length = _ := bn_done
  rw [e2] at h1
  exact ⟨vd, vf, rfl, h1, h2, hk⟩
theorem RD.done {w : World} {A : Option Addr} {n c : Nat} {l : List (Nat × Nat × Dn)} (h : RD w eDone (.slice A n c) l) {k : Nat} (hk : k < l.length) :
    ∃ b o, A = some ⟨b, o, none⟩ ∧ b < w.heap.size ∧ w.cell? ⟨b, o + k * 5, none⟩ = some (.int .i64 l[k].1) ∧ w.cell? ⟨b, o + k * 5 + 1, none⟩ = some (.int .i64 l[k].2.1) ∧ w.cell? ⟨b, o + k * 5 + 2, none⟩ = some (.int .i64 l[k].2.2.bgn) ∧
      w.cell? ⟨b, o + k * 5 + 3, none⟩ = some (.int .i64 l[k].2.2.fin) ∧ w.cell? ⟨b, o + k * 5 + 4, none⟩ = some (.bool l[k].2.2.is) := by
  obtain ⟨b, o, rfl, hb, hc⟩ := h.at_ hk
  exact ⟨b, o, rfl, hb, hc 0 (by decide), hc 1 (by decide), hc 2 (by decide), hc 3 (by decide), hc 4 (by decide)⟩
set_option maxRecDepth 100000 in
set_option maxHeartbeats 2000000 in
theorem hlives_any (w : World) : Calls Try.prog 10 #[] w (Ret (.bool true) w) := by
  have HRL := hide run_lv
  obtain ⟨os, hos⟩ : ∃ os : List Obj, os = [.cells #[.int .i64 3] 3, .cells #[.int .i64 1, .int .i64 5] 23, .cells #[.int .i64 3, .int .i64 5] 23, .cells #[.slice (some ⟨w.heap.size + 1, 0, none⟩) 1 1, .slice (some ⟨w.heap.size + 1 + 1, 0, none⟩) 1 1] 24, .cells #[.int .i64 0, .int .i64 0, .int .i64 0, .int .i64 0, .int .i64 0] 3] := ⟨_, rfl⟩
  have b0 : BC (os.foldl (fun w o => w.alloc o) w) (w.heap.size + 0) 3 [.int .i64 3] := BC.made os w 0 (by rw [hos]; rfl)
  have b1 : BC (os.foldl (fun w o => w.alloc o) w) (w.heap.size + 1) 23 [.int .i64 1, .int .i64 5] := BC.made os w 1 (by rw [hos]; rfl)
  have b2 : BC (os.foldl (fun w o => w.alloc o) w) (w.heap.size + 2) 23 [.int .i64 3, .int .i64 5] := BC.made os w 2 (by rw [hos]; rfl)
  have b3 : BC (os.foldl (fun w o => w.alloc o) w) (w.heap.size + 3) 24 [.slice (some ⟨w.heap.size + 1, 0, none⟩) 1 1, .slice (some ⟨w.heap.size + 1 + 1, 0, none⟩) 1 1] := BC.made os w 3 (by rw [hos]; rfl)
  have b4 : BC (os.foldl (fun w o => w.alloc o) w) (w.heap.size + 4) 3 [.int .i64 0, .int .i64 0, .int .i64 0, .int .i64 0, .int .i64 0] := BC.made os w 4 (by rw [hos]; rfl)
  have kk : Kp w (os.foldl (fun w o => w.alloc o) w) := by rw [hos]; exact (Kp.refl w).alloc.alloc.alloc.alloc.alloc
  obtain ⟨W, hW⟩ : ∃ W, W = os.foldl (fun w o => w.alloc o) w := ⟨_, rfl⟩
  rw [← hW] at b0 b1 b2 b3 b4 kk
  have HB : Hid (RD W eInt (.slice (some ⟨w.heap.size, 0, none⟩) 1 1) [3] ∧ RDS W eDeed (.slice (some ⟨w.heap.size + 1 + 1 + 1, 0, none⟩) 2 2) Pl ∧ RD W eInt (.slice (some ⟨w.heap.size + 1 + 1 + 1 + 1, 0, none⟩) 5 5) [0, 0, 0, 0, 0]) := hide (by
    refine ⟨RD.block (l := [3]) b0 rfl (by decide), ⟨_, _, rfl, by decide, by decide, fun _ => ⟨w.heap.size + 3, 0, rfl, b3.lt, fun k hk => ?_⟩⟩, RD.block (l := [0, 0, 0, 0, 0]) b4 rfl (by decide)⟩
    match k, hk with
    | 0, _ => exact ⟨_, b3.cell 0, RD.block (l := [(⟨1, 5⟩ : Dd)]) b1 rfl (by decide)⟩
    | 1, _ => exact ⟨_, b3.cell 1, RD.block (l := [(⟨3, 5⟩ : Dd)]) b2 rfl (by decide)⟩)
  rw [hos] at hW
  have hW : W = ((((w.alloc (.cells #[.int .i64 3] 3)).alloc (.cells #[.int .i64 1, .int .i64 5] 23)).alloc (.cells #[.int .i64 3, .int .i64 5] 23)).alloc (.cells #[.slice (some ⟨w.heap.size + 1, 0, none⟩) 1 1, .slice (some ⟨w.heap.size + 1 + 1, 0, none⟩) 1 1] 24)).alloc (.cells #[.int .i64 0, .int .i64 0, .int .i64 0, .int .i64 0, .int .i64 0] 3) := hW
  have HW := hide hW
  have HK := hide kk
  clear b0 b1 b2 b3 b4 kk hW hos
  go_enter Try.func10, Try.ntmps10
  go_wp2_with fail
  rw [← HW.out]
  refine (HRL.out _ _ _ W HB.out.1 HB.out.2.1 HB.out.2.2).mono ?_
  rintro e w1 ⟨vd, vl, rfl, hd, hl, hk⟩
  obtain ⟨dA, dC, rfl, hdc, _⟩ := hd.shape
  obtain ⟨lA, lC, rfl, hlc, _⟩ := hl.shape
  have kk1 := HK.out.trans hk
  obtain ⟨b, o, rfl, _, x0, x1, x2, x3, x4⟩ := hd.done (k := 0) (by decide)
  obtain ⟨_, _, e, _, y0, y1, y2, y3, y4⟩ := hd.done (k := 1) (by decide)
  cases e
  simp only [List.getElem_cons_zero, List.getElem_cons_succ, List.length_cons, List.length_nil, Nat.zero_mul, Nat.one_mul, Nat.add_zero] at x0 x1 x2 x3 x4 y0 y1 y2 y3 y4 hdc hlc
  have HS : Hid (∀ (x y : Value) (W2 : World), W2 = (w1.alloc (.cells #[x, y] 29)).alloc (.cells #[.int .i64 3, .int .i64 5] 3) → Calls Try.prog 20 #[.slice lA 2 lC, .slice (some ⟨w1.heap.size + 1, 0, none⟩) 2 2] W2 (fun e w' => e = .returned (.bool true) ∧ Kp w w')) := hide (by
    intro x y W2 hW2
    have k2 : Kp w1 W2 := by rw [hW2]; exact (Kp.refl w1).alloc.alloc
    have b2 : BC W2 (w1.heap.size + 1) 3 [.int .i64 3, .int .i64 5] := by rw [hW2]; exact BC.made [.cells #[x, y] 29, .cells #[.int .i64 3, .int .i64 5] 3] w1 1 rfl
    exact (sameInts_to [3, 5] [3, 5] true _ _ _ (hl.kp k2) (RD.block (l := [3, 5]) b2 rfl (by decide)) (by decide)).mono fun e w' h => ⟨h.1, kk1.trans (k2.trans (Kp.of h.2))⟩)
  clear hd hl hk kk1
  go_wp2_with fail
  refine (HS.out _ _ _ rfl).mono ?_
  rintro e w2 ⟨rfl, hb2⟩
  have HK2 := hide hb2
  clear hb2
  go_wp2
  go_ret
  exact ⟨rfl, HK2.out.bel⟩
end Go.Proofs.Ytoihdnekkgpcoaa
namespace Go.Proofs.Ytoihdnekkgpcoaa
open Go.ChangeShapes Go.WideShapes Go.ChangeAt Go.RowKit
set_option linter.unusedVariables false
set_option linter.unusedSimpArgs false

set_option maxHeartbeats 400000 in
theorem cloneInts_any (l : List Int) (v : Value) (w : World) (hr : RD w eInt v l) (hn : l.length ≤ 1000000) : Calls Try.prog 23 #[v] w (RetOW 3 eInt l w) := by
  obtain ⟨A, c, rfl, hc, hm, hA, h3⟩ := id hr
  have he := fun W => Lib.run_eql_slice_nil (P := Try.prog) W 27 3 A l.length c 0 0 Try.underlying27
  have HR := hide hr
  clear hr h3
  cases A with
  | none =>
    have hc0 : c = 0 := hA rfl
    have hl : l = [] := List.eq_nil_of_length_eq_zero (by omega)
    subst hl
    subst hc0
    clear hA
    simp only [List.length_nil] at he ⊢
    go_enter Try.func23, Try.ntmps23
    go_wp2
    go_ret
    exact ⟨_, rfl, OW.nil, Below.refl _ _⟩
  | some a =>
    have HM1 : Hid ((([] : List Int).length + l.length) * 8 ≤ 140737488355328) := hide (by simp; omega)
    have HM2 : Hid (([] : List Int).length + l.length ≤ maxLen) := hide (by simp [maxLen]; omega)
    have HE : Hid (OW (w.alloc (.cells #[] 3)) w.heap.size 3 eInt (.slice (some ⟨w.heap.size, 0, none⟩) 0 0) ([] : List Int)) := hide (OW.empty (Nat.le_refl _))
    have HHI : Hi w.heap.size (.slice (some ⟨w.heap.size, 0, none⟩) 0 0) := fun k hk => by simp [Value.ownBlock] at hk; omega
    clear hA
    go_enter Try.func23, Try.ntmps23
    go_wp2_with (at_builtin; (with_reducible refine list_app (B := w.heap.size) (l := ([] : List Int)) (m := l) row_int (.slice (some ⟨w.heap.size, 0, none⟩) 0 0) ?_ (.tmp 5) (.tmp 6) ?_ ?_ ?_ ?_ HM1.out HM2.out ?_ ?_); (with_reducible rfl); (with_reducible rfl); rfl; (exact HE.out); (show RD _ _ (.slice (some a) l.length c) _; exact HR.out.alloc _); (simp); intro v3 w3 ho3 hg3 hat3)
    go_ret
    exact ⟨_, rfl, ho3, (Kp.app hg3 (Kp.refl w).alloc HHI).bel⟩
end Go.Proofs.Ytoihdnekkgpcoaa
namespace Go.Proofs.Ytoihdnekkgpcoaa
open Go.ChangeShapes Go.WideShapes Go.ChangeAt Go.RowKit
set_option linter.unusedVariables false
set_option linter.unusedSimpArgs false

abbrev Tl := Nat × Nat × Dn
def tlV (x : Tl) : Value := .agg #[.int .i64 x.1, .int .i64 x.2.1, .int .i64 x.2.2.bgn, .int .i64 x.2.2.fin, .bool x.2.2.is]
def IxD (D : List Tl) (p : Tl → Bool) (w : World) (iv : Value) (wr : World) : Prop := ∃ k : Nat, k ≤ D.length ∧ iv = .int .i64 k ∧ (∀ j (h : j < D.length), j < k → p D[j] = false) ∧ Kp w wr
def IxPost (D : List Tl) (p : Tl → Bool) (w : World) (e : Ending) (w' : World) : Prop := ∃ r : Int, e = .returned (.int .i64 r) ∧ Kp w w' ∧ ((∃ (k : Nat) (h : k < D.length), r = k ∧ p D[k] = true ∧ ∀ j (h : j < D.length), j < k → p D[j] = false) ∨ (r = -1 ∧ ∀ x ∈ D, p x = false))
set_option maxRecDepth 100000 in
set_option maxHeartbeats 2000000 in
theorem indexDone_any (D : List Tl) (v : Value) (F : Nat) (cap : Value) (p : Tl → Bool) (w : World) (hr : RD w eDone v D) (hE : Ent F) (hF : ∀ x ∈ D, ∀ W, Kp w W → Calls Try.prog F #[tlV x, cap] W (fun e w' => e = .returned (.bool (p x)) ∧ Kp W w')) :
    Calls Try.prog 32 #[v, .func (.func F) #[] #[cap]] w (IxPost D p w) := by
  obtain ⟨A, c, rfl, hcl, hm⟩ := hr.shape
  have HR := hide hr
  have HE := hide hE
  have HF := hide hF
  clear hr hE hF
  go_enter Try.func32, Try.ntmps32
  go_wp2
  go_loopw [8] (fun iv wx => IxD D p w iv wx) (fun i _ => D.length - (intOf i).toNat)
  case atStart => exact ⟨0, by omega, rfl, fun j h a => by omega, Kp.refl _⟩
  case round =>
    obtain ⟨k, hk, rfl, hall, hkp⟩ := hrel
    have HALL := hide hall
    clear hall
    by_cases hlt : k < D.length
    · obtain ⟨b, o, e, _, x0, x1, x2, x3, x4⟩ := (HR.out.kp hkp).done hlt
      cases e
      have hc := HF.out _ (List.getElem_mem hlt) wr hkp
      obtain ⟨x, hx⟩ : ∃ x, x = D[k]'hlt := ⟨_, rfl⟩
      rw [← hx] at x0 x1 x2 x3 x4 hc
      have HC := hide hc
      have HX := hide hx
      have HKP := hide hkp
      have hlti : (k : Int) < (D.length : Int) := by omega
      have HLT := hide hlt
      obtain ⟨xa, xe, xb, xf, xi⟩ := x
      unfold tlV at HC
      simp only at x0 x1 x2 x3 x4 HC
      clear hc hx hkp
      cases hp : p (xa, xe, ⟨xb, xf, xi⟩) with
      | true =>
        rw [hp] at HC
        have HPX := hide hp
        clear hp
        go_wp2_with fail
        rw [HE.out]
        refine HC.out.mono ?_
        rintro e w1 ⟨rfl, hk1⟩
        have HK1 := hide (HKP.out.trans hk1)
        clear hk1
        go_wp2
        go_ret
        exact ⟨k, rfl, HK1.out, .inl ⟨k, HLT.out, rfl, by rw [← HX.out]; exact HPX.out, HALL.out⟩⟩
      | false =>
        rw [hp] at HC
        have HPX := hide hp
        clear hp
        go_wp2_with fail
        rw [HE.out]
        refine HC.out.mono ?_
        rintro e w1 ⟨rfl, hk1⟩
        have HK1 := hide (HKP.out.trans hk1)
        clear hk1
        go_wp2
        go_roundw
        case rel =>
          exact ⟨k + 1, by have := HLT.out; omega, by go_num, fun j h a => by
            by_cases e : j = k
            · subst e; rw [← HX.out]; exact HPX.out
            · exact HALL.out j h (by omega), HK1.out⟩
        case measure => simp [intOf]; have := HLT.out; omega
    · have HKP := hide hkp
      have HN : Hid (∀ x ∈ D, p x = false) := hide (fun x hx => by
        obtain ⟨j, hj, rfl⟩ := List.mem_iff_getElem.1 hx
        exact HALL.out j hj (by omega))
      have hlti : ¬ (k : Int) < (D.length : Int) := by omega
      clear hkp hlt
      go_wp2
      go_ret
      exact ⟨-1, rfl, HKP.out, .inr ⟨rfl, HN.out⟩⟩
set_option maxRecDepth 100000 in
set_option maxHeartbeats 2000000 in
theorem containsDone_any (D : List Tl) (v : Value) (F : Nat) (cap : Value) (p : Tl → Bool) (w : World) (hr : RD w eDone v D) (hE : Ent F) (hF : ∀ x ∈ D, ∀ W, Kp w W → Calls Try.prog F #[tlV x, cap] W (fun e w' => e = .returned (.bool (p x)) ∧ Kp W w')) :
    Calls Try.prog 25 #[v, .func (.func F) #[] #[cap]] w (fun e w' => e = .returned (.bool (D.any p)) ∧ Kp w w') := by
  have HI := hide (indexDone_any D v F cap p w hr hE hF)
  obtain ⟨A, c, rfl, hcl, hm⟩ := hr.shape
  clear hr hE hF
  go_enter Try.func25, Try.ntmps25
  go_wp2_with fail
  refine HI.out.mono ?_
  rintro e w1 ⟨r, rfl, hk, hh⟩
  rcases hh with ⟨k, h, rfl, h1, _⟩ | ⟨rfl, h1⟩
  · have HA : Hid (D.any p = true) := hide (List.any_eq_true.2 ⟨_, List.getElem_mem h, h1⟩)
    have d1 : decide ((0 : Int) ≤ (k : Int)) = true := decide_eq_true (by omega)
    clear h1 h
    go_wp2
    go_ret
    exact ⟨by rw [HA.out]; rfl, hk⟩
  · have HA : Hid (D.any p = false) := hide (List.any_eq_false.2 fun x hx => by rw [h1 x hx]; decide)
    clear h1
    go_wp2
    go_ret
    exact ⟨by rw [HA.out]; rfl, hk⟩
set_option maxHeartbeats 400000 in
theorem cloneDone_any (l : List (Nat × Nat × Dn)) (v : Value) (w : World) (hr : RD w eDone v l) (hn : l.length ≤ 1000000) : Calls Try.prog 28 #[v] w (RetOW 35 eDone l w) := by
  obtain ⟨A, c, rfl, hc, hm, hA, h3⟩ := id hr
  have he := fun W => Lib.run_eql_slice_nil (P := Try.prog) W 26 35 A l.length c 0 0 Try.underlying26
  have HR := hide hr
  clear hr h3
  cases A with
  | none =>
    have hc0 : c = 0 := hA rfl
    have hl : l = [] := List.eq_nil_of_length_eq_zero (by omega)
    subst hl
    subst hc0
    clear hA
    simp only [List.length_nil] at he ⊢
    go_enter Try.func28, Try.ntmps28
    go_wp2
    go_ret
    exact ⟨_, rfl, OW.nil, Below.refl _ _⟩
  | some a =>
    have HM1 : Hid ((([] : List (Nat × Nat × Dn)).length + l.length) * 40 ≤ 140737488355328) := hide (by simp; omega)
    have HM2 : Hid (([] : List (Nat × Nat × Dn)).length + l.length ≤ maxLen) := hide (by simp [maxLen]; omega)
    have HE : Hid (OW (w.alloc (.cells #[] 35)) w.heap.size 35 eDone (.slice (some ⟨w.heap.size, 0, none⟩) 0 0) ([] : List (Nat × Nat × Dn))) := hide (OW.empty (Nat.le_refl _))
    have HHI : Hi w.heap.size (.slice (some ⟨w.heap.size, 0, none⟩) 0 0) := fun k hk => by simp [Value.ownBlock] at hk; omega
    clear hA
    go_enter Try.func28, Try.ntmps28
    go_wp2_with (at_builtin; (with_reducible refine list_app (B := w.heap.size) (l := ([] : List (Nat × Nat × Dn))) (m := l) row_done (.slice (some ⟨w.heap.size, 0, none⟩) 0 0) ?_ (.tmp 5) (.tmp 6) ?_ ?_ ?_ ?_ HM1.out HM2.out ?_ ?_); (with_reducible rfl); (with_reducible rfl); rfl; (exact HE.out); (show RD _ _ (.slice (some a) l.length c) _; exact HR.out.alloc _); (simp); intro v3 w3 ho3 hg3 hat3)
    go_ret
    exact ⟨_, rfl, ho3, (Kp.app hg3 (Kp.refl w).alloc HHI).bel⟩
end Go.Proofs.Ytoihdnekkgpcoaa
