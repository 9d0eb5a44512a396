/-
  Keys that are right: few, rising, in bounds. No program. Conditions: none.
  hedgkeep.GoatEven: the walk: it answers true. Conditions: the keys read as ints (RD), the table (DTb).
  hedgkeep.GoatEven: THE STATEMENT: for every input it answers true. Conditions: the table of math/bits holds what the program's text lays (tied on the card).
-/
import Derived.Test.YtpkkajglbklboaaDoorG25
import Derived.Test.YtpkkajglbklboaaDoorG14
import Derived.Test.YtpkkajglbklboaaDoorG26
import Derived.Test.YtpkkajglbklboaaDoorG8
import Derived.Test.YtpkkajglbklboaaDoorG2
import Derived.Test.YtpkkajglbklboaaDoorCards
import Derived.Test.YtpkkajglbklboaaDoorTie
import Derived.SevenTiedAt

namespace Go.Proofs.YtpkkajglbklboaaDoor
open Go.ChangeShapes Go.WideShapes Go.ChangeAt Go.RowKit
set_option linter.unusedVariables false
set_option linter.unusedSimpArgs false

theorem krF_pair : ∀ (l : List Int) (la : Int), krF la l = 0 → l.Pairwise (· < ·) ∧ ∀ x ∈ l, la < x ∧ x ≤ 1000000
  | [], _, _ => ⟨List.Pairwise.nil, fun x hx => by cases hx⟩
  | y :: t, la, h => by
    unfold krF at h
    split at h
    · next hc =>
      obtain ⟨h1, h2⟩ := krF_pair t y h
      refine ⟨List.Pairwise.cons (fun x hx => (h2 x hx).1) h1, fun x hx => ?_⟩
      rcases List.mem_cons.1 hx with rfl | hx
      · omega
      · have := h2 x hx; omega
    · omega
theorem krL_in {l : List Int} (h : krL l = 0) : l.length ≤ 200 ∧ l.Pairwise (· < ·) ∧ ∀ x ∈ l, 0 ≤ x ∧ x ≤ 1000000 := by
  unfold krL at h
  split at h
  · omega
  · next hl =>
    obtain ⟨h1, h2⟩ := krF_pair l (-1) h
    exact ⟨by omega, h1, fun x hx => by have := h2 x hx; omega⟩
end Go.Proofs.YtpkkajglbklboaaDoor
namespace Go.Proofs.YtpkkajglbklboaaDoor
open Go.ChangeShapes Go.WideShapes Go.ChangeAt Go.RowKit
set_option linter.unusedVariables false
set_option linter.unusedSimpArgs false

/-- The state of the loop that looks for the least row. -/
def GeRel (n : Nat) (w : World) (lv : Value) (wr : World) : Prop := ∃ j : Nat, j ≤ 9 ∧ lv = .int .i64 ((j : Int) - 1) ∧ (∀ i, i < j → 2 ^ i ≤ n) ∧ w = wr
theorem even_least (ks : List Int) (j : Nat) (h1 : ∀ i, i < j → 2 ^ i ≤ ks.length) (h2 : ¬ 2 ^ j ≤ ks.length) : hT (evenT ks) = j := by
  obtain ⟨e1, e2, e3⟩ := evenT_h ks
  rcases Nat.lt_trichotomy (hT (evenT ks)) j with h | h | h
  · have := h1 _ h; omega
  · exact h
  · have hp : 0 < ks.length := by
      rcases Nat.eq_zero_or_pos ks.length with h0 | h0
      · have := e3 h0; omega
      · exact h0
    have h3 := e2 hp
    have h4 : 2 ^ j ≤ 2 ^ (hT (evenT ks) - 1) := Nat.pow_le_pow_right (by omega) (by omega)
    omega
set_option maxRecDepth 100000 in
set_option maxHeartbeats 8000000 in
theorem goatEven_walk (ks : List Int) (v : Value) (w : World) (hr : RD w eInt v ks) (hdb : DTb w) : Calls Tryd.prog 7 #[v] w (Ret (.bool true) w) := by
  obtain ⟨A, c, rfl, hc, hm⟩ := hr.shape
  have HR := hide hr
  have HDB := hide hdb
  clear hr hdb
  have HEV := hide (fun W v h hd => gtEvenF_any ks v W h hd)
  by_cases h0 : krL ks = 0
  · obtain ⟨hlen, hpw, hin⟩ := krL_in h0
    obtain ⟨g1, g2⟩ := even_right ks hlen hpw hin
    have he : evenA ks = ((evenT ks).spotsBy Prod.fst 0, 0) := by rw [evenA, if_pos h0]
    have hml := mostL_hT (evenT ks) 0 (by omega)
    have hsl : ((evenT ks).spotsBy Prod.fst 0).length = ks.length := by rw [MT.spotsBy_len, evenT_size]
    have HLST := hide (fun j h1 h2 => even_least ks j h1 h2)
    obtain ⟨s, hs⟩ : ∃ s, s = (evenT ks).spotsBy Prod.fst 0 := ⟨_, rfl⟩
    rw [← hs] at g1 g2 he hml hsl
    rw [he] at HEV
    have hsum : sumOf s = (mostL s, allL s, 0) := by rw [sumOf, if_neg (by simp [g1])]
    have HSU := hide (fun W v h => sum_any s v W h)
    rw [hsum] at HSU
    have HSK := hide (fun W v h => spotKeys_any s v W h (by omega))
    rw [g2] at HSK
    obtain ⟨M, hM⟩ : ∃ M, M = mostL s := ⟨_, rfl⟩
    obtain ⟨AL, hAL⟩ : ∃ AL, AL = allL s := ⟨_, rfl⟩
    rw [← hM] at HSU hml
    rw [← hAL] at HSU
    have HML := hide hml
    clear h0 hpw hin g1 g2 he hml hsl hs hsum hM hAL
    go_enter Tryd.func7, Tryd.ntmps7
    go_wp2_with fail
    with_reducible refine (HEV.out _ _ HR.out HDB.out).mono ?_
    rintro e w1 ⟨v1, rfl, hr1, hb1⟩
    have kk1 := Kp.of hb1
    obtain ⟨A1, c1, rfl, _, _⟩ := hr1.shape
    have HS := hide hr1
    clear hr1 hb1
    go_wp2_with fail
    with_reducible refine (goatLives_any _ (HDB.out.kp kk1)).mono ?_
    rintro e w2 ⟨rfl, hb2⟩
    have kk2 := Kp.of hb2
    clear hb2
    go_wp2_with fail
    with_reducible refine (HSU.out _ _ (HS.out.kp kk2)).mono ?_
    rintro e w3 ⟨rfl, hb3⟩
    have kk3 := Kp.of hb3
    clear hb3
    go_wp2
    go_loopw [8] (GeRel ks.length w3) (fun lv _ => (9 - intOf lv).toNat)
    case atStart => exact ⟨0, by omega, rfl, fun i h => by omega, rfl⟩
    case round =>
      obtain ⟨j, hj, rfl, hle, rfl⟩ := hrel
      obtain ⟨P, hP⟩ : ∃ P, P = 2 ^ j := ⟨_, rfl⟩
      have hPb : P ≤ 512 := by rw [hP]; exact Nat.le_trans (Nat.pow_le_pow_right (by omega) hj) (by decide)
      have hP1 : 1 ≤ P := by rw [hP]; exact Nat.one_le_two_pow
      have hpi : (2 : Int) ^ j = (P : Int) := by rw [hP]; simp
      have v0 : IntKind.i64.wrap ((j : Int) - 1 + 1) = (j : Int) := by rw [IntWalk.i64_in _ (by omega)]; omega
      have v1 : IntKind.i64.wrap (j : Int) = (j : Int) := IntWalk.i64_in _ (by omega)
      have v2 : IntKind.i64.wrap ((2 : Int) ^ j) = (P : Int) := by rw [hpi]; exact IntWalk.i64_in _ (by omega)
      have v2' : IntKind.i64.wrap (P : Int) = (P : Int) := IntWalk.i64_in _ (by omega)
      have v3 : IntKind.i64.wrap ((P : Int) - 1) = (P : Int) - 1 := IntWalk.i64_in _ (by omega)
      have s0 : (0 : Int) ≤ (j : Int) := by omega
      have s1 : (j : Int) ≤ 64 := by omega
      have HLEE := hide hle
      have HP := hide hP
      clear hle hP
      by_cases hlt : P ≤ ks.length
      · have d1 : (P : Int) - 1 < (ks.length : Int) := by omega
        have hj8 : j ≤ 8 := by
          rcases Nat.lt_or_ge j 9 with h | h
          · omega
          · have : j = 9 := by omega
            subst this
            have := HP.out
            omega
        go_wp2
        go_roundw
        case rel => exact ⟨j + 1, by omega, by go_num, fun i hi => by
          rcases Nat.lt_or_ge i j with h | h
          · exact HLEE.out i h
          · obtain rfl : i = j := by omega
            rw [← HP.out]; exact hlt, rfl⟩
        case measure => simp [intOf]; omega
      · have d1 : ¬ (P : Int) - 1 < (ks.length : Int) := by omega
        have hlst := HLST.out j HLEE.out (by rw [← HP.out]; exact hlt)
        have hMj : M = (j : Int) - 1 := by have := HML.out; omega
        subst hMj
        clear hlst hlt HML
        go_wp2_with fail
        with_reducible refine (HSK.out _ _ (HS.out.kp (kk2.trans kk3))).mono ?_
        rintro e w5 ⟨v5, rfl, ho5, hb5⟩
        have kk5 := Kp.of hb5
        have HR5 := hide ho5.rd
        clear ho5 hb5
        go_wp2_with fail
        refine (sameInts_to ks ks true _ _ _ HR5.out (HR.out.kp (kk1.trans (kk2.trans (kk3.trans kk5)))) (by simp)).mono ?_
        rintro e w6 ⟨rfl, hb6⟩
        have kk6 := Kp.of hb6
        clear hb6
        go_wp2
        go_ret
        exact ⟨rfl, (kk1.trans (kk2.trans (kk3.trans (kk5.trans kk6)))).bel⟩
  · have he : evenA ks = ([], krL ks) := by rw [evenA, if_neg h0]
    obtain ⟨r, hr⟩ : ∃ r, r = krL ks := ⟨_, rfl⟩
    rw [he, ← hr] at HEV
    rw [← hr] at h0
    have d1 : (r != 0) = true := by simpa using h0
    clear h0 he hr
    go_enter Tryd.func7, Tryd.ntmps7
    go_wp2_with fail
    with_reducible refine (HEV.out _ _ HR.out HDB.out).mono ?_
    rintro e w1 ⟨v1, rfl, hr1, hb1⟩
    have kk1 := Kp.of hb1
    obtain ⟨A1, c1, rfl, _, _⟩ := hr1.shape
    clear hr1 hb1
    go_wp2_with fail
    with_reducible refine (goatLives_any _ (HDB.out.kp kk1)).mono ?_
    rintro e w2 ⟨rfl, hb2⟩
    have kk2 := Kp.of hb2
    clear hb2
    go_wp2_with fail
    with_reducible refine (goatLives_any _ (HDB.out.kp (kk1.trans kk2))).mono ?_
    rintro e w3 ⟨rfl, hb3⟩
    have kk3 := Kp.of hb3
    clear hb3
    go_wp2
    go_ret
    exact ⟨rfl, (kk1.trans (kk2.trans kk3)).bel⟩
end Go.Proofs.YtpkkajglbklboaaDoor
namespace Go.Proofs.YtpkkajglbklboaaDoor
open Go.ChangeShapes Go.WideShapes Go.ChangeAt Go.RowKit Go.Deep
set_option linter.unusedVariables false
set_option linter.unusedSimpArgs false

set_option maxRecDepth 100000 in
theorem goatEven_lifted (os : Os) (started : os.Started) (H : Type) (enc : TypeId × Value → H) :
    ReturnsInHanded {} Tryd.checked os 7 .any (fun w args => (Rows.goatEvenSpec.pre enc Tryd.prog Tryd.f7 Rows.goatEvenRow.domain false w args ∧ laidMetH Tryd.prog ZLaid w) ∧ sizedMet enc Tryd.prog Tryd.f7 (OpenSpec.ofChange Rows.goatEvenSpec) false w args) (Rows.goatEvenSpec.post enc Tryd.prog Tryd.f7 false true false false) := by
  refine returnsInHanded_of_change_and (C := Tryd.checked) (X := fun w _ => laidMetH Tryd.prog ZLaid w) (fun _ _ _ hh h => h.of_heap hh) own started (by kernel_rfl) Tryd.func7
    (ChangeSpec.witness_at (enc := enc) (C := Tryd.checked) (os := os) (X := fun w _ => laidMetH Tryd.prog ZLaid w) false (laidWorldZ os) #[.slice none 0 0] 8 rfl (by kernel_rfl) (by kernel_rfl) (by kernel_rfl) (by kernel_rfl) (by kernel_rfl) (laidZ_met os _)) ?_
  intro W base args ds gs before hval0 hW hcnd _ hL _
  have hval : ∀ (j : Nat) t v, Tryd.f7.params[j]? = some t → args[j]? = some v → Value.okWide Tryd.prog W .any base t v := hval0
  have hW' := hW
  obtain ⟨p, q, hA0, hV, rfl, hfz, hnd⟩ := hW
  have hA : DataW.TrodAll enc Tryd.prog W 0 (fun _ => true) true Tryd.f7.params.toList args.toList ds p := hA0
  rw [Tryd.params7] at hA hval
  obtain ⟨v0, vs0, d0, ds0, p0, q0, hargs, rfl, rfl, h0, r0⟩ := trodAll_cons hA
  obtain ⟨rfl, rfl, rfl⟩ := trodAll_nil r0
  obtain rfl : args = #[v0] := by cases args; simp_all
  obtain ⟨rfl, rfl⟩ := trodVars_none hV
  obtain ⟨a0, n0, c0, rfl⟩ := okWide_slice Tryd.underlying36 (hval 0 36 v0 rfl rfl)
  have lt0 : ∀ x ∈ p0, x.block < W.heap.size := by obtain ⟨m, hm⟩ := h0; exact DataW.trod_lt m _ _ _ hm
  obtain ⟨l0, w0⟩ := arg_ints h0
  clear hA0 hval0
  refine (goatEven_walk l0 _ W w0 (db_of_laid hL)).mono fun e W' ⟨he, bel⟩ => ?_
  subst he
  exact ⟨_, rfl, _, _, _, [], _, [], hW', trodAll_mk1 (shut_bool Tryd.underlying4 _), (trodAll_cons_mk (Below.trod laidOut (by kernel_rfl) (of_decide_eq_true (by kernel_rfl)) h0 bel lt0) trodAll_mk0), rfl, bel.frame _, fun h => by cases h⟩

set_option maxRecDepth 100000 in
set_option maxHeartbeats 8000000 in
theorem goatEven_closed : joinedFacts Tryd.checked.prog 7 Tryd.f7 Rows.goatEvenSpec Rows.goatEvenRow = true := by
  unfold joinedFacts
  repeat' (with_reducible refine and_true_of ?_ ?_)
  all_goals (as_aux_lemma => kernel_rfl)
theorem goatEven_over : Rows.goatEvenRow.holds Tryd.pinned (OpenSpec.ofChange Rows.goatEvenSpec) :=
  OpenClaim.holds_of_wide 7 Tryd.f7 rfl rfl rfl rfl rfl rfl rfl ⟨rfl, rfl, rfl, rfl, rfl⟩ rfl rfl rfl rfl rfl (by as_aux_lemma => kernel_rfl) Tryd.func7 goatEven_closed
    (of_decide_eq_true (by as_aux_lemma => kernel_rfl)) (by as_aux_lemma => unfold Func.isWrapper; first | (rw [if_pos (by decide +kernel)]; kernel_rfl) | (rw [if_neg (by decide +kernel)]; exact ⟨rfl, rfl⟩))
    (fun os started H enc _ => goatEven_lifted os started H enc)
set_option maxRecDepth 100000 in
theorem goatEven_proved : Rows.GoatEvenCardSaid :=
  Claim7.holds_tied_plain_at .later [] [.data] true _ false goatEven_over (fun _ h => by cases h) (by kernel_rfl) (fun _ h => by cases h) goatEven_row_tie rfl ⟨rfl, rfl⟩ (by kernel_rfl) rfl
    (fun f fn hf hfn => by
      obtain rfl : f = 7 := Option.some.inj ((show Tryd.prog.funcNamed "hedgewright/hedgkeep.GoatEven" = some 7 by kernel_rfl).symm.trans hf) |>.symm
      obtain rfl : fn = Tryd.f7 := (Option.some.inj (Tryd.func7.symm.trans hfn)).symm
      exact ⟨by kernel_rfl, fun j t ht => by
        have h : (Tryd.f7.params.toList.all fun t => !Tryd.prog.wantsStandIn t) = true := by kernel_rfl
        have hm : t ∈ Tryd.f7.params.toList := by
          rw [Array.mem_toList_iff]
          exact Array.mem_of_getElem? ht
        have h2 : Tryd.prog.wantsStandIn t = false := by simpa using List.all_eq_true.1 h t hm
        exact h2⟩)
    (by kernel_rfl)
#print axioms goatEven_proved
end Go.Proofs.YtpkkajglbklboaaDoor
