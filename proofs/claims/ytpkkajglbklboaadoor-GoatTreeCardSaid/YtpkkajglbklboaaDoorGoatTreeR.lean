/-
  hedgkeep.GoatTree: the walk: it answers true. Conditions: the ops read as ops (RD), the table (DTb).
  hedgkeep.GoatTree: THE STATEMENT: for every input it answers true. Conditions: the table of math/bits holds what the program's text lays (tied on the card).
-/
import Derived.Test.YtpkkajglbklboaaDoorG14
import Derived.Test.YtpkkajglbklboaaDoorG26
import Derived.Test.YtpkkajglbklboaaDoorG12
import Derived.Test.YtpkkajglbklboaaDoorG2
import Derived.Test.YtpkkajglbklboaaDoorCards
import Derived.Test.YtpkkajglbklboaaDoorTie
import Derived.SevenTiedAt

namespace Go.Proofs.YtpkkajglbklboaaDoor
open Go.ChangeShapes Go.WideShapes Go.ChangeAt Go.RowKit
set_option linter.unusedVariables false
set_option linter.unusedSimpArgs false

set_option maxRecDepth 100000 in
set_option maxHeartbeats 8000000 in
theorem goatTree_walk (ops : List O3) (v : Value) (w : World) (hr : RD w eOp v ops) (hdb : DTb w) : Calls Tryd.prog 5 #[v] w (Ret (.bool true) w) := by
  obtain ⟨A, c, rfl, hc, hm⟩ := hr.shape
  have HR := hide hr
  have HDB := hide hdb
  clear hr hdb
  have HRU := hide (fun W v h => goatRun_any ops v W h)
  by_cases hlen : ops.length > 300
  · have hru : goatRun ops = ([], 0, [], 2) := by rw [goatRun, if_pos hlen]
    rw [hru] at HRU
    clear hru
    go_enter Tryd.func5, Tryd.ntmps5
    go_wp2_with fail
    with_reducible refine (HRU.out _ _ HR.out).mono ?_
    rintro e w1 ⟨v1, u1, rfl, hr1, hu1, hb1⟩
    have kk1 := Kp.of hb1
    obtain ⟨A1, c1, rfl, _, _⟩ := hr1.shape
    obtain ⟨B1, d1, rfl, _, _⟩ := hu1.shape
    clear hr1 hu1 hb1
    go_wp2_with fail
    with_reducible refine (goatLives_any _ (HDB.out.kp kk1)).mono ?_
    rintro e w2 ⟨rfl, hb2⟩
    have kk2 := Kp.of hb2
    clear hb2
    go_wp2_with fail
    with_reducible refine (goatLives_any _ (HDB.out.kp (kk1.trans kk2))).mono ?_
    rintro e w3 ⟨rfl, hb3⟩
    have kk3 := Kp.of hb3
    clear hb3
    go_wp2
    go_ret
    exact ⟨rfl, (kk1.trans (kk2.trans kk3)).bel⟩
  · have hru : goatRun ops = ((gtT (opsZ ops)).T.spotsBy Prod.fst 0, ((gtT (opsZ ops)).built : Int), (runL ops).2, 0) := by rw [goatRun, if_neg hlen]
    obtain ⟨g1, g2⟩ := goat_right ops
    have hsl : ((gtT (opsZ ops)).T.spotsBy Prod.fst 0).length ≤ 1000000 := by
      have h := gt_end ops
      rw [MT.spotsBy_len]
      have := h.ok.many; have := h.ok.le; have := h.top; have := h.top2
      omega
    have hml : (runL ops).1.length ≤ 1000000 := by have := mapRight_len _ (gt_end ops).right; omega
    have HAW := hide (fun W v h => answered_any ops v W h (by omega))
    obtain ⟨s, hs⟩ : ∃ s, s = (gtT (opsZ ops)).T.spotsBy Prod.fst 0 := ⟨_, rfl⟩
    rw [← hs] at hru g1 g2 hsl
    have HCK := hide (fun W v h => shapeCheck_any s v W h)
    rw [g1] at HCK
    have HSK := hide (fun W v h => spotKeys_any s v W h (by omega))
    rw [g2] at HSK
    obtain ⟨⟨m, an⟩, hP⟩ : ∃ P, P = runL ops := ⟨_, rfl⟩
    rw [← hP] at hru HAW HSK hml
    simp only at hru HSK hml
    have HMK := hide (fun W v h => mapKeys_any m v W h hml)
    rw [hru] at HRU
    obtain ⟨K, hK⟩ : ∃ K, K = m.map Prod.fst := ⟨_, rfl⟩
    rw [← hK] at HSK HMK
    clear hru g1 g2 hs hP hsl hml hK
    go_enter Tryd.func5, Tryd.ntmps5
    go_wp2_with fail
    with_reducible refine (HRU.out _ _ HR.out).mono ?_
    rintro e w1 ⟨v1, u1, rfl, hr1, hu1, hb1⟩
    have kk1 := Kp.of hb1
    obtain ⟨A1, c1, rfl, _, _⟩ := hr1.shape
    obtain ⟨B1, d1, rfl, _, _⟩ := hu1.shape
    have HS := hide hr1
    clear hr1 hu1 hb1
    go_wp2_with fail
    with_reducible refine (goatLives_any _ (HDB.out.kp kk1)).mono ?_
    rintro e w2 ⟨rfl, hb2⟩
    have kk2 := Kp.of hb2
    clear hb2
    go_wp2_with fail
    with_reducible refine (HAW.out _ _ (HR.out.kp (kk1.trans kk2))).mono ?_
    rintro e w3 ⟨v3, u3, rfl, hr3, _, hb3⟩
    have kk3 := Kp.of hb3
    have HM := hide hr3
    clear hr3 hb3
    go_wp2_with fail
    with_reducible refine (HCK.out _ _ (HS.out.kp (kk2.trans kk3))).mono ?_
    rintro e w4 ⟨rfl, hb4⟩
    have kk4 := Kp.of hb4
    clear hb4
    go_wp2_with fail
    with_reducible refine (HSK.out _ _ (HS.out.kp (kk2.trans (kk3.trans kk4)))).mono ?_
    rintro e w5 ⟨v5, rfl, ho5, hb5⟩
    have kk5 := Kp.of hb5
    have HR5 := hide ho5.rd
    clear ho5 hb5
    go_wp2_with fail
    with_reducible refine (HMK.out _ _ (HM.out.kp (kk4.trans kk5))).mono ?_
    rintro e w6 ⟨v6, rfl, ho6, hb6⟩
    have kk6 := Kp.of hb6
    have HR6 := hide ho6.rd
    clear ho6 hb6
    go_wp2_with fail
    refine (sameInts_to K K true _ _ _ (HR5.out.kp kk6) HR6.out (by simp)).mono ?_
    rintro e w7 ⟨rfl, hb7⟩
    have kk7 := Kp.of hb7
    clear hb7
    go_wp2
    go_ret
    exact ⟨rfl, (kk1.trans (kk2.trans (kk3.trans (kk4.trans (kk5.trans (kk6.trans kk7)))))).bel⟩
end Go.Proofs.YtpkkajglbklboaaDoor
namespace Go.Proofs.YtpkkajglbklboaaDoor
open Go.ChangeShapes Go.WideShapes Go.ChangeAt Go.RowKit Go.Deep
set_option linter.unusedVariables false
set_option linter.unusedSimpArgs false

set_option maxRecDepth 100000 in
theorem goatTree_lifted (os : Os) (started : os.Started) (H : Type) (enc : TypeId × Value → H) :
    ReturnsInHanded {} Tryd.checked os 5 .any (fun w args => (Rows.goatTreeSpec.pre enc Tryd.prog Tryd.f5 Rows.goatTreeRow.domain false w args ∧ laidMetH Tryd.prog ZLaid w) ∧ sizedMet enc Tryd.prog Tryd.f5 (OpenSpec.ofChange Rows.goatTreeSpec) false w args) (Rows.goatTreeSpec.post enc Tryd.prog Tryd.f5 false true false false) := by
  refine returnsInHanded_of_change_and (C := Tryd.checked) (X := fun w _ => laidMetH Tryd.prog ZLaid w) (fun _ _ _ hh h => h.of_heap hh) own started (by kernel_rfl) Tryd.func5
    (ChangeSpec.witness_at (enc := enc) (C := Tryd.checked) (os := os) (X := fun w _ => laidMetH Tryd.prog ZLaid w) false (laidWorldZ os) #[.slice none 0 0] 8 rfl (by kernel_rfl) (by kernel_rfl) (by kernel_rfl) (by kernel_rfl) (by kernel_rfl) (laidZ_met os _)) ?_
  intro W base args ds gs before hval0 hW hcnd _ hL _
  have hval : ∀ (j : Nat) t v, Tryd.f5.params[j]? = some t → args[j]? = some v → Value.okWide Tryd.prog W .any base t v := hval0
  have hW' := hW
  obtain ⟨p, q, hA0, hV, rfl, hfz, hnd⟩ := hW
  have hA : DataW.TrodAll enc Tryd.prog W 0 (fun _ => true) true Tryd.f5.params.toList args.toList ds p := hA0
  rw [Tryd.params5] at hA hval
  obtain ⟨v0, vs0, d0, ds0, p0, q0, hargs, rfl, rfl, h0, r0⟩ := trodAll_cons hA
  obtain ⟨rfl, rfl, rfl⟩ := trodAll_nil r0
  obtain rfl : args = #[v0] := by cases args; simp_all
  obtain ⟨rfl, rfl⟩ := trodVars_none hV
  obtain ⟨a0, n0, c0, rfl⟩ := okWide_slice Tryd.underlying22 (hval 0 22 v0 rfl rfl)
  have lt0 : ∀ x ∈ p0, x.block < W.heap.size := by obtain ⟨m, hm⟩ := h0; exact DataW.trod_lt m _ _ _ hm
  obtain ⟨l0, w0⟩ := arg_ops h0
  clear hA0 hval0
  refine (goatTree_walk l0 _ W w0 (db_of_laid hL)).mono fun e W' ⟨he, bel⟩ => ?_
  subst he
  exact ⟨_, rfl, _, _, _, [], _, [], hW', trodAll_mk1 (shut_bool Tryd.underlying4 _), (trodAll_cons_mk (Below.trod laidOut (by kernel_rfl) (of_decide_eq_true (by kernel_rfl)) h0 bel lt0) trodAll_mk0), rfl, bel.frame _, fun h => by cases h⟩

set_option maxRecDepth 100000 in
set_option maxHeartbeats 8000000 in
theorem goatTree_closed : joinedFacts Tryd.checked.prog 5 Tryd.f5 Rows.goatTreeSpec Rows.goatTreeRow = true := by
  unfold joinedFacts
  repeat' (with_reducible refine and_true_of ?_ ?_)
  all_goals (as_aux_lemma => kernel_rfl)
theorem goatTree_over : Rows.goatTreeRow.holds Tryd.pinned (OpenSpec.ofChange Rows.goatTreeSpec) :=
  OpenClaim.holds_of_wide 5 Tryd.f5 rfl rfl rfl rfl rfl rfl rfl ⟨rfl, rfl, rfl, rfl, rfl⟩ rfl rfl rfl rfl rfl (by as_aux_lemma => kernel_rfl) Tryd.func5 goatTree_closed
    (of_decide_eq_true (by as_aux_lemma => kernel_rfl)) (by as_aux_lemma => unfold Func.isWrapper; first | (rw [if_pos (by decide +kernel)]; kernel_rfl) | (rw [if_neg (by decide +kernel)]; exact ⟨rfl, rfl⟩))
    (fun os started H enc _ => goatTree_lifted os started H enc)
set_option maxRecDepth 100000 in
theorem goatTree_proved : Rows.GoatTreeCardSaid :=
  Claim7.holds_tied_plain_at .later [] [.data] true _ false goatTree_over (fun _ h => by cases h) (by kernel_rfl) (fun _ h => by cases h) goatTree_row_tie rfl ⟨rfl, rfl⟩ (by kernel_rfl) rfl
    (fun f fn hf hfn => by
      obtain rfl : f = 5 := Option.some.inj ((show Tryd.prog.funcNamed "hedgewright/hedgkeep.GoatTree" = some 5 by kernel_rfl).symm.trans hf) |>.symm
      obtain rfl : fn = Tryd.f5 := (Option.some.inj (Tryd.func5.symm.trans hfn)).symm
      exact ⟨by kernel_rfl, fun j t ht => by
        have h : (Tryd.f5.params.toList.all fun t => !Tryd.prog.wantsStandIn t) = true := by kernel_rfl
        have hm : t ∈ Tryd.f5.params.toList := by
          rw [Array.mem_toList_iff]
          exact Array.mem_of_getElem? ht
        have h2 : Tryd.prog.wantsStandIn t = false := by simpa using List.all_eq_true.1 h t hm
        exact h2⟩)
    (by kernel_rfl)
#print axioms goatTree_proved
end Go.Proofs.YtpkkajglbklboaaDoor
