/-
  hedglaw.DeskRuns
  hedglaw.DeskRuns: THE STATEMENT of the second form: for every input of the bound it answer
-/
import Derived.Test.YtcljlnagpjilaaaGreatDoorG50
import Derived.Test.YtcljlnagpjilaaaGreatDoorCards
import Derived.Test.YtcljlnagpjilaaaGreatDoorTie
import Derived.SevenTiedAt
import Derived.Deep.DeepHandedRow
import Derived.Test.YtcljlnagpjilaaaGreatDoorG1

set_option linter.unusedVariables false
set_option linter.unusedSimpArgs false
set_option maxRecDepth 100000
set_option maxHeartbeats 8000000
namespace Go.Proofs.YtcljlnagpjilaaaGreatDoor
open Go.ChangeShapes Go.WideShapes Go.ChangeAt Go.RowKit
theorem deskRuns_walk (s : ByteArray) (w : World) (hs : s.size < 4294967281) (hm : MaxL w) (ht : T10 w) (hdb : DTb w) : Calls Tryz.prog 4 #[.string s] w (Ret (.bool true) w) := by
 have HR := hide (deskRun_any s w hs hm ht hdb)
 have HTo := hide (fun w' (k : Kp w w') => deskTold_any s w' hs (hm.kp k))
 clear hm ht hdb hs
 go_enter Tryz.func4, Tryz.ntmps4
 go_wp2_with fail
 refine HR.out.mono ?_
 rintro e w1 ⟨rfl, kk1⟩
 go_wp2_with fail
 refine (HTo.out _ kk1).mono ?_
 rintro e w2 ⟨rfl, kk2⟩
 go_wp2
 go_ret
 exact ⟨by simp, (kk1.trans kk2).bel⟩
end Go.Proofs.YtcljlnagpjilaaaGreatDoor
namespace Go.Proofs.YtcljlnagpjilaaaGreatDoor
open Go.ChangeShapes Go.WideShapes Go.ChangeAt Go.RowKit Go.Deep
theorem deskRuns_reads (os : Os) {H : Type} (enc : TypeId × Value -> H) : ∃ places, DataW.whole enc Tryz.prog ((deskWorld os).forCall (fun _ _ => 0) ⟨#[], #[.string ⟨#[]⟩], []⟩).memory Tryz.f4.params.toList Rows.deskRunsSpec.vars false #[.string ⟨#[]⟩].toList 8 = some ([.lit (.string [])], [], places) :=
 ⟨[], by kernel_rfl⟩
theorem deskRuns_lifted (os : Os) (started : os.Started) (H : Type) (enc : TypeId × Value -> H) (F : Stop.Interp) :
  ReturnsInHanded {} Tryz.checked os 4 .any ((Rows.OpenSpec.upto Rows.deskRunsSpec).preRow enc Tryz.prog Tryz.f4 Rows.deskRunsUptoRow.domain false Rows.deskRunsUptoRow.laid) (((Rows.OpenSpec.upto Rows.deskRunsSpec).at F).post enc Tryz.prog Tryz.f4 false true false false) := by
 obtain ⟨places, hx⟩ := deskRuns_reads os enc
 refine returnsInHanded_of_row (C := Tryz.checked) (s := Rows.OpenSpec.upto Rows.deskRunsSpec) own started (by kernel_rfl) Tryz.func4
  (witness_row_atRef (enc := enc) (C := Tryz.checked) false (deskWorld os) #[.string ⟨#[]⟩] rfl (by kernel_rfl) (by kernel_rfl) (by kernel_rfl)
   (OpenSpec.preRow_of_cond 8 hx (by kernel_rfl) (fun k hk => by cases hk; kernel_rfl) (by kernel_rfl) (desk_met os _))) ?_
 intro W base args ds gs before hval0 hW hcnd hsm hsz hL hsh _
 have hsm := hsm _ rfl
 have hval : ∀ (j : Nat) t v, Tryz.f4.params[j]? = some t -> args[j]? = some v -> Value.okWide Tryz.prog W .any base t v := hval0
 have hW' := hW
 obtain ⟨p, q, hA0, hV, rfl, hfz, hnd⟩ := hW
 have hA : DataW.TrodAll enc Tryz.prog W 0 (fun _ => true) true Tryz.f4.params.toList args.toList ds p := hA0
 rw [Tryz.params4] at hA hval
 obtain ⟨v0, vs0, d0, ds0, p0, q0, hargs, rfl, rfl, h0, r0⟩ := trodAll_cons hA
 obtain ⟨rfl, rfl, rfl⟩ := trodAll_nil r0
 obtain rfl : args = #[v0] := by cases args; simp_all
 obtain ⟨rfl, rfl⟩ := trodVars_none hV
 obtain ⟨s0, rfl, rfl, rfl, w0⟩ := ChangeMaps.open_string Tryz.underlying9 (hval 0 9 v0 rfl rfl) h0
 have b0 : s0.size < 4294967281 := by
  have u2 := upto_part hsm (d := .lit (.string s0.data.toList)) (by simp)
  rw [string_bulk] at u2
  rw [Lib.size_eq]
  omega
 clear hA0 hval0
 refine (deskRuns_walk s0 W b0 (desk_maxL hsh) (desk_t10 hL) (desk_db hL)).mono fun e W' ⟨he, bel⟩ => ?_
 subst he
 exact ⟨_, rfl, _, _, _, [], _, [], hW', trodAll_mk1 (shut_bool Tryz.underlying4 _), (trodAll_cons_mk (ChangeMaps.shut_string Tryz.underlying9 w0) trodAll_mk0), rfl, bel.frame _, fun h => by cases h⟩
theorem deskRuns_closed : joinedFacts Tryz.checked.prog 4 Tryz.f4 (Rows.OpenSpec.upto Rows.deskRunsSpec).bare Rows.deskRunsUptoRow = true := by
 unfold joinedFacts
 repeat' (with_reducible refine and_true_of ?_ ?_)
 all_goals (as_aux_lemma => kernel_rfl)
theorem deskRuns_over : Rows.deskRunsUptoRow.holds Tryz.pinned (Rows.OpenSpec.upto Rows.deskRunsSpec) :=
 OpenClaim.holds_of_cond 4 Tryz.f4 rfl rfl rfl rfl rfl rfl rfl ⟨rfl, rfl, rfl, rfl, rfl⟩ rfl rfl rfl rfl rfl (by as_aux_lemma => kernel_rfl) Tryz.func4 deskRuns_closed
  (of_decide_eq_true (by as_aux_lemma => kernel_rfl)) (by as_aux_lemma => unfold Func.isWrapper; first | (rw [if_pos (by decide +kernel)]; kernel_rfl) | (rw [if_neg (by decide +kernel)]; exact ⟨rfl, rfl⟩))
  (fun os started H enc _ F => by rw [OpenClaim.pre_eq_preRow]; exact deskRuns_lifted os started H enc F)
theorem deskRuns_proved : Rows.DeskRunsUptoCardSaid :=
 Claim7.holds_tied_plain_at .later [] _ _ _ _ deskRuns_over (fun _ h => by cases h) (by kernel_rfl) (fun _ h => by cases h) deskRunsUpto_row_tie rfl ⟨rfl, rfl⟩ (by kernel_rfl) rfl
  (fun f fn hf hfn => by
   obtain rfl : f = 4 := Option.some.inj ((show Tryz.prog.funcNamed "hedgewright/hedglaw.DeskRuns" = some 4 by kernel_rfl).symm.trans hf) |>.symm
   obtain rfl : fn = Tryz.f4 := (Option.some.inj (Tryz.func4.symm.trans hfn)).symm
   exact ⟨by kernel_rfl, fun j t ht => by
    have h : (Tryz.f4.params.toList.all fun t => !Tryz.prog.wantsStandIn t) = true := by kernel_rfl
    have hm : t ∈ Tryz.f4.params.toList := by
     rw [Array.mem_toList_iff]
     exact Array.mem_of_getElem? ht
    have h2 : Tryz.prog.wantsStandIn t = false := by simpa using List.all_eq_true.1 h t hm
    exact h2⟩)
  (by kernel_rfl)
end Go.Proofs.YtcljlnagpjilaaaGreatDoor
