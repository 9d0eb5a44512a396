/-
  hedglaw.SkipRuns: the walk: it answers true. Conditions: the list of ops reads as ops (RD); the table of math/bits holds what it is laid with (DTb).
  hedglaw.SkipRuns: THE STATEMENT: for every input it answers true. Conditions: the table of math/bits holds what the program's text lays (tied on the card).
-/
import Derived.Test.YtfojphaemfbfnaaDoorG23
import Derived.Test.YtfojphaemfbfnaaDoorG24
import Derived.Test.YtfojphaemfbfnaaDoorG25
import Derived.Test.YtfojphaemfbfnaaDoorG18
import Derived.Test.YtfojphaemfbfnaaDoorG2
import Derived.Test.YtfojphaemfbfnaaDoorCards
import Derived.Test.YtfojphaemfbfnaaDoorTie
import Derived.SevenTiedAt

namespace Go.Proofs.YtfojphaemfbfnaaDoor
open Go.ChangeShapes Go.WideShapes Go.ChangeAt Go.RowKit
set_option linter.unusedVariables false
set_option linter.unusedSimpArgs false

theorem DTb.posS {w : World} (h : DTb w) : 0 < w.heap.size := World.block_lt_of_cell? _ _ (h 0 (by omega))
set_option maxRecDepth 100000 in
set_option maxHeartbeats 8000000 in
theorem skipRuns_walk (ops : List O3) (v : Value) (w : World) (hr : RD w eOp v ops) (hdb : DTb w) : Calls Tryd.prog 4 #[v] w (Ret (.bool true) w) := by
  obtain ⟨A, c, rfl, hc, hm⟩ := hr.shape
  have HR := hide hr
  have HRU := hide (skRun_any ops _ w hr hdb hdb.posS)
  rw [skRun_eq] at HRU
  clear hr hdb
  by_cases hlen : ops.length > 300
  · rw [if_pos hlen] at HRU
    go_enter Tryd.func4, Tryd.ntmps4
    go_wp2_with fail
    with_reducible refine HRU.out.mono ?_
    rintro e w1 ⟨v1, u1, rfl, hr1, hu1, kk1⟩
    obtain ⟨A1, c1, rfl, _, _⟩ := hr1.shape
    obtain ⟨A2, c2, rfl, _, _⟩ := hu1.shape
    clear hr1 hu1
    go_wp2
    go_ret
    exact ⟨rfl, kk1.bel⟩
  · rw [if_neg hlen] at HRU
    have HAW := hide (fun W v h => answered_any ops v W h (by omega))
    have hml : ((runL ops).1.map Prod.fst).length ≤ 200 := (krL_in (runL_keys ops)).1
    obtain ⟨R, hR⟩ : ∃ R, R = runL ops := ⟨_, rfl⟩
    rw [← hR] at HRU HAW hml
    obtain ⟨m, b⟩ := R
    simp only at HRU hml
    have HMK := hide (fun v W h => mapKeys_any m v W h (by simp at hml; omega))
    obtain ⟨ks, hks⟩ : ∃ ks, ks = m.map Prod.fst := ⟨_, rfl⟩
    rw [← hks] at HRU HMK hml
    have HRO := hide (fun v W h => rowsOf_any ks v W h (by omega))
    obtain ⟨rr, hrr⟩ : ∃ rr, rr = rowsN ks 12 := ⟨_, rfl⟩
    have hrl : rr.length ≤ 12 := by rw [hrr]; exact rowsN_len ks 12
    rw [← hrr] at HRU HRO
    have HRL := hide hrl
    clear hR hks hrr hrl hml
    go_enter Tryd.func4, Tryd.ntmps4
    go_wp2_with fail
    with_reducible refine HRU.out.mono ?_
    rintro e w1 ⟨v1, u1, rfl, hr1, hu1, kk1⟩
    have HR1 := hide hr1
    have HU1 := hide hu1
    clear hr1 hu1
    go_wp2_with fail
    refine (HAW.out _ _ (HR.out.kp kk1)).mono ?_
    rintro e w2 ⟨v2, u2, rfl, hr2, hu2, hb2⟩
    have kk2 : Kp w1 w2 := Kp.of hb2
    have HR2 := hide hr2
    have HU2 := hide hu2
    clear hr2 hu2 hb2
    go_wp2_with fail
    with_reducible refine (HMK.out _ _ HR2.out).mono ?_
    rintro e w3 ⟨v3, rfl, ho3, hb3⟩
    have kk3 : Kp w2 w3 := Kp.of hb3
    have HR3 := hide ho3.rd
    clear ho3 hb3
    go_wp2_with fail
    with_reducible refine (HRO.out _ _ HR3.out).mono ?_
    rintro e w4 ⟨v4, rfl, hr4, kk4⟩
    have HR4 := hide hr4
    have HC := hide (sameRows_any rr rr v1 v4 w4 (HR1.out.kp (kk2.trans (kk3.trans kk4))) hr4 (by have := HRL.out; omega))
    rw [decide_eq_true rfl] at HC
    clear hr4
    go_wp2_with fail
    with_reducible refine HC.out.mono ?_
    rintro e w5 ⟨rfl, hb5⟩
    have kk5 : Kp w4 w5 := Kp.of hb5
    clear hb5
    have HE := hide (eqAns_same b u1 u2 w5 (HU1.out.kp (kk2.trans (kk3.trans (kk4.trans kk5)))) (HU2.out.kp (kk3.trans (kk4.trans kk5))))
    go_wp2_with fail
    with_reducible refine HE.out.mono ?_
    rintro e w6 ⟨rfl, hb6⟩
    have kk6 : Kp w5 w6 := Kp.of hb6
    clear hb6
    go_wp2
    go_ret
    exact ⟨rfl, (kk1.trans (kk2.trans (kk3.trans (kk4.trans (kk5.trans kk6))))).bel⟩
end Go.Proofs.YtfojphaemfbfnaaDoor
namespace Go.Proofs.YtfojphaemfbfnaaDoor
open Go.ChangeShapes Go.WideShapes Go.ChangeAt Go.RowKit Go.Deep
set_option linter.unusedVariables false
set_option linter.unusedSimpArgs false

set_option maxRecDepth 100000 in
theorem skipRuns_lifted (os : Os) (started : os.Started) (H : Type) (enc : TypeId × Value → H) :
    ReturnsInHanded {} Tryd.checked os 4 .any (fun w args => (Rows.skipRunsSpec.pre enc Tryd.prog Tryd.f4 Rows.skipRunsRow.domain false w args ∧ laidMetH Tryd.prog ZLaid w) ∧ sizedMet enc Tryd.prog Tryd.f4 (OpenSpec.ofChange Rows.skipRunsSpec) false w args) (Rows.skipRunsSpec.post enc Tryd.prog Tryd.f4 false true false false) := by
  refine returnsInHanded_of_change_and (C := Tryd.checked) (X := fun w _ => laidMetH Tryd.prog ZLaid w) (fun _ _ _ hh h => h.of_heap hh) own started (by kernel_rfl) Tryd.func4
    (ChangeSpec.witness_at (enc := enc) (C := Tryd.checked) (os := os) (X := fun w _ => laidMetH Tryd.prog ZLaid w) false (laidWorldZ os) #[.slice none 0 0] 8 rfl (by kernel_rfl) (by kernel_rfl) (by kernel_rfl) (by kernel_rfl) (by kernel_rfl) (laidZ_met os _)) ?_
  intro W base args ds gs before hval0 hW hcnd _ hL _
  have hval : ∀ (j : Nat) t v, Tryd.f4.params[j]? = some t → args[j]? = some v → Value.okWide Tryd.prog W .any base t v := hval0
  have hW' := hW
  obtain ⟨p, q, hA0, hV, rfl, hfz, hnd⟩ := hW
  have hA : DataW.TrodAll enc Tryd.prog W 0 (fun _ => true) true Tryd.f4.params.toList args.toList ds p := hA0
  rw [Tryd.params4] at hA hval
  obtain ⟨v0, vs0, d0, ds0, p0, q0, hargs, rfl, rfl, h0, r0⟩ := trodAll_cons hA
  obtain ⟨rfl, rfl, rfl⟩ := trodAll_nil r0
  obtain rfl : args = #[v0] := by cases args; simp_all
  obtain ⟨rfl, rfl⟩ := trodVars_none hV
  obtain ⟨a0, n0, c0, rfl⟩ := okWide_slice Tryd.underlying40 (hval 0 40 v0 rfl rfl)
  have lt0 : ∀ x ∈ p0, x.block < W.heap.size := by obtain ⟨m, hm⟩ := h0; exact DataW.trod_lt m _ _ _ hm
  obtain ⟨l0, w0⟩ := arg_ops h0
  clear hA0 hval0
  refine (skipRuns_walk l0 _ W w0 (db_of_laid hL)).mono fun e W' ⟨he, bel⟩ => ?_
  subst he
  exact ⟨_, rfl, _, _, _, [], _, [], hW', trodAll_mk1 (shut_bool Tryd.underlying4 _), (trodAll_cons_mk (Below.trod laidOut (by kernel_rfl) (of_decide_eq_true (by kernel_rfl)) h0 bel lt0) trodAll_mk0), rfl, bel.frame _, fun h => by cases h⟩

set_option maxRecDepth 100000 in
set_option maxHeartbeats 8000000 in
theorem skipRuns_closed : joinedFacts Tryd.checked.prog 4 Tryd.f4 Rows.skipRunsSpec Rows.skipRunsRow = true := by
  unfold joinedFacts
  repeat' (with_reducible refine and_true_of ?_ ?_)
  all_goals (as_aux_lemma => kernel_rfl)
theorem skipRuns_over : Rows.skipRunsRow.holds Tryd.pinned (OpenSpec.ofChange Rows.skipRunsSpec) :=
  OpenClaim.holds_of_wide 4 Tryd.f4 rfl rfl rfl rfl rfl rfl rfl ⟨rfl, rfl, rfl, rfl, rfl⟩ rfl rfl rfl rfl rfl (by as_aux_lemma => kernel_rfl) Tryd.func4 skipRuns_closed
    (of_decide_eq_true (by as_aux_lemma => kernel_rfl)) (by as_aux_lemma => unfold Func.isWrapper; first | (rw [if_pos (by decide +kernel)]; kernel_rfl) | (rw [if_neg (by decide +kernel)]; exact ⟨rfl, rfl⟩))
    (fun os started H enc _ => skipRuns_lifted os started H enc)
set_option maxRecDepth 100000 in
theorem skipRuns_proved : Rows.SkipRunsCardSaid :=
  Claim7.holds_tied_plain_at .later [] [.data] true _ false skipRuns_over (fun _ h => by cases h) (by kernel_rfl) (fun _ h => by cases h) skipRuns_row_tie rfl ⟨rfl, rfl⟩ (by kernel_rfl) rfl
    (fun f fn hf hfn => by
      obtain rfl : f = 4 := Option.some.inj ((show Tryd.prog.funcNamed "hedgewright/hedglaw.SkipRuns" = some 4 by kernel_rfl).symm.trans hf) |>.symm
      obtain rfl : fn = Tryd.f4 := (Option.some.inj (Tryd.func4.symm.trans hfn)).symm
      exact ⟨by kernel_rfl, fun j t ht => by
        have h : (Tryd.f4.params.toList.all fun t => !Tryd.prog.wantsStandIn t) = true := by kernel_rfl
        have hm : t ∈ Tryd.f4.params.toList := by
          rw [Array.mem_toList_iff]
          exact Array.mem_of_getElem? ht
        have h2 : Tryd.prog.wantsStandIn t = false := by simpa using List.all_eq_true.1 h t hm
        exact h2⟩)
    (by kernel_rfl)
#print axioms skipRuns_proved
end Go.Proofs.YtfojphaemfbfnaaDoor
