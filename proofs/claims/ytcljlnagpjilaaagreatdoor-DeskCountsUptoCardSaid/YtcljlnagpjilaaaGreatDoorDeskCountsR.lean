/-
  hedgkeep.DeskCounts
  hedgkeep.DeskCounts: THE STATEMENT of the second form: for every input of the bound it ans
-/
import Derived.Test.YtcljlnagpjilaaaGreatDoorG49
import Derived.Test.YtcljlnagpjilaaaGreatDoorCards
import Derived.Test.YtcljlnagpjilaaaGreatDoorTie
import Derived.SevenTiedAt
import Derived.Deep.DeepHandedRow
import Derived.Test.YtcljlnagpjilaaaGreatDoorG1

set_option linter.unusedVariables false
set_option linter.unusedSimpArgs false
set_option maxRecDepth 100000
set_option maxHeartbeats 8000000
namespace Go.Proofs.YtcljlnagpjilaaaGreatDoor
open Go.ChangeShapes Go.WideShapes Go.ChangeAt Go.RowKit
theorem countNl_any (l : By) (w : World) : Calls Tryz.prog 12 #[.string (bs l), .string ⟨#[10]⟩] w (fun e w' => e = .returned (.int .i64 (l.count 10 : Nat)) /\ w' = w) :=
 Any.strings_Count_one { lCount with } (bs l) 10 w
theorem sufNl_any (l : By) (w : World) (hs : (bs l).size <= 9223372036854775807) : Calls Tryz.prog 13 #[.string (bs l), .string ⟨#[10]⟩] w (fun e w' => e = .returned (.bool (Lib.hasSuffix l [10])) /\ w' = w) :=
 Any.strings_HasSuffix { lHasSuffix with } (bs l) ⟨#[10]⟩ w hs
theorem suffix_snoc (l : By) : Lib.hasSuffix (l ++ [10]) [10] = true := by simp [Lib.hasSuffix]
theorem deskCounts_walk (s : ByteArray) (w : World) (hs : s.size < 4294967281) (hm : MaxL w) (ht : T10 w) (hdb : DTb w) : Calls Tryz.prog 5 #[.string s] w (Ret (.bool true) w) := by
  have HL := hide (deskLines_any s w hs hm)
  have HR := hide (fun w' (k : Kp w w') => deskRun_any s w' hs (hm.kp k) (ht.kp k) (hdb.kp k))
  have HV := hide (fun w' (k : Kp w w') => deskLives_any w' (hm.kp k) (ht.kp k) (hdb.kp k))
  clear hm ht hdb hs
  unfold DlPost at HL
  by_cases h1 : 8192 < s.size
  · have d1 : decide ((8192 : Int) < s.size) = true := decide_eq_true (by omega)
    have H1 : Hid (deskRun s = twoB) := hide (by rw [deskRun, if_pos (.inl h1)])
    rw [H1.out] at HR
    clear h1
    go_enter Tryz.func5, Tryz.ntmps5
    go_wp2_with fail
    refine HL.out.mono ?_
    rintro e w1 ⟨v, rfl, hr, kk1⟩
    go_wp2_with fail
    refine (HR.out _ kk1).mono ?_
    rintro e w2 ⟨rfl, kk2⟩
    go_wp2_with fail
    refine (HV.out _ (kk1.trans kk2)).mono ?_
    rintro e w3 ⟨rfl, hb3⟩
    have kk3 := Kp.of hb3
    go_wp2_with fail
    refine (HV.out _ ((kk1.trans kk2).trans kk3)).mono ?_
    rintro e w4 ⟨rfl, hb4⟩
    have kk4 := Kp.of hb4
    go_wp2
    go_ret
    exact ⟨by kernel_rfl, (((kk1.trans kk2).trans kk3).trans kk4).bel⟩
  · have d1 : decide ((8192 : Int) < s.size) = false := decide_eq_false (by omega)
    by_cases h2 : 100 < (linesF s).length
    · have d2 : decide ((100 : Int) < (linesF s).length) = true := decide_eq_true (by omega)
      have H1 : Hid (deskRun s = twoB) := hide (by rw [deskRun, if_pos (.inr h2)])
      rw [H1.out] at HR
      obtain ⟨n, hn⟩ : ∃ n, n = (linesF s).length := ⟨_, rfl⟩
      rw [<- hn] at HL d2
      clear h1 h2 hn
      go_enter Tryz.func5, Tryz.ntmps5
      go_wp2_with fail
      refine HL.out.mono ?_
      rintro e w1 ⟨v, rfl, hr, kk1⟩
      go_wp2_with fail
      refine (HR.out _ kk1).mono ?_
      rintro e w2 ⟨rfl, kk2⟩
      go_wp2_with fail
      refine (HV.out _ (kk1.trans kk2)).mono ?_
      rintro e w3 ⟨rfl, hb3⟩
      have kk3 := Kp.of hb3
      go_wp2_with fail
      refine (HV.out _ ((kk1.trans kk2).trans kk3)).mono ?_
      rintro e w4 ⟨rfl, hb4⟩
      have kk4 := Kp.of hb4
      go_wp2
      go_ret
      exact ⟨by kernel_rfl, (((kk1.trans kk2).trans kk3).trans kk4).bel⟩
    · have d2 : decide ((100 : Int) < (linesF s).length) = false := decide_eq_false (by omega)
      obtain ⟨hc, ho⟩ := deskRun_count s (by omega) (by omega)
      have hz : (deskRun s).length <= 9223372036854775807 := by
        have := deskSt_len (linesF s) (by omega) (linesF s).length (Nat.le_refl _)
        rw [List.take_length] at this
        rw [deskRun, if_neg (by omega)]
        omega
      have HN := hide (congrArg (fun (n : Nat) => (n : Int)) hc)
      obtain ⟨n, hn⟩ : ∃ n, n = (linesF s).length := ⟨_, rfl⟩
      rw [<- hn] at HL d2 HN
      obtain ⟨R, hR⟩ : ∃ R, R = deskRun s := ⟨_, rfl⟩
      rw [<- hR] at HR HN hz ho
      have HZ := hide hz
      clear h1 h2 hn hR hc hz
      rcases ho with rfl | ⟨l, rfl⟩
      · have he : Hid ((bs []).toList = []) := hide (by rw [ByteArray.toList_eq]; rfl)
        go_enter Tryz.func5, Tryz.ntmps5
        go_wp2_with fail
        refine HL.out.mono ?_
        rintro e w1 ⟨v, rfl, hr, kk1⟩
        go_wp2_with fail
        refine (HR.out _ kk1).mono ?_
        rintro e w2 ⟨rfl, kk2⟩
        go_wp2_with fail
        refine (HV.out _ (kk1.trans kk2)).mono ?_
        rintro e w3 ⟨rfl, hb3⟩
        have kk3 := Kp.of hb3
        go_wp2_with fail
        refine (countNl_any _ _).mono ?_
        rintro e w4 ⟨rfl, rfl⟩
        rw [HN.out]
        have hee := he.out
        go_wp2
        go_ret
        exact ⟨by simp, ((kk1.trans kk2).trans kk3).bel⟩
      · have he : Hid ((bs (l ++ [10])).toList.isEmpty = false) := hide (by rw [ByteArray.toList_eq]; simp [bs])
        go_enter Tryz.func5, Tryz.ntmps5
        go_wp2_with fail
        refine HL.out.mono ?_
        rintro e w1 ⟨v, rfl, hr, kk1⟩
        go_wp2_with fail
        refine (HR.out _ kk1).mono ?_
        rintro e w2 ⟨rfl, kk2⟩
        go_wp2_with fail
        refine (HV.out _ (kk1.trans kk2)).mono ?_
        rintro e w3 ⟨rfl, hb3⟩
        have kk3 := Kp.of hb3
        go_wp2_with fail
        refine (countNl_any _ _).mono ?_
        rintro e w4 ⟨rfl, rfl⟩
        rw [HN.out]
        have hee := he.out
        go_wp2_with fail
        refine (sufNl_any _ _ (by have := HZ.out; have h9 : (bs (l ++ [10])).size = (l ++ [10]).length := by simp [bs, ByteArray.size]
                                  omega)).mono ?_
        rintro e w5 ⟨rfl, rfl⟩
        rw [suffix_snoc]
        go_wp2
        go_ret
        exact ⟨by simp, ((kk1.trans kk2).trans kk3).bel⟩
end Go.Proofs.YtcljlnagpjilaaaGreatDoor
namespace Go.Proofs.YtcljlnagpjilaaaGreatDoor
open Go.ChangeShapes Go.WideShapes Go.ChangeAt Go.RowKit Go.Deep
theorem deskCounts_reads (os : Os) {H : Type} (enc : TypeId × Value -> H) : ∃ places, DataW.whole enc Tryz.prog ((deskWorld os).forCall (fun _ _ => 0) ⟨#[], #[.string ⟨#[]⟩], []⟩).memory Tryz.f5.params.toList Rows.deskCountsSpec.vars false #[.string ⟨#[]⟩].toList 8 = some ([.lit (.string [])], [], places) :=
 ⟨[], by kernel_rfl⟩
theorem deskCounts_lifted (os : Os) (started : os.Started) (H : Type) (enc : TypeId × Value -> H) (F : Stop.Interp) :
  ReturnsInHanded {} Tryz.checked os 5 .any ((Rows.OpenSpec.upto Rows.deskCountsSpec).preRow enc Tryz.prog Tryz.f5 Rows.deskCountsUptoRow.domain false Rows.deskCountsUptoRow.laid) (((Rows.OpenSpec.upto Rows.deskCountsSpec).at F).post enc Tryz.prog Tryz.f5 false true false false) := by
 obtain ⟨places, hx⟩ := deskCounts_reads os enc
 refine returnsInHanded_of_row (C := Tryz.checked) (s := Rows.OpenSpec.upto Rows.deskCountsSpec) own started (by kernel_rfl) Tryz.func5
  (witness_row_atRef (enc := enc) (C := Tryz.checked) false (deskWorld os) #[.string ⟨#[]⟩] rfl (by kernel_rfl) (by kernel_rfl) (by kernel_rfl)
   (OpenSpec.preRow_of_cond 8 hx (by kernel_rfl) (fun k hk => by cases hk; kernel_rfl) (by kernel_rfl) (desk_met os _))) ?_
 intro W base args ds gs before hval0 hW hcnd hsm hsz hL hsh _
 have hsm := hsm _ rfl
 have hval : ∀ (j : Nat) t v, Tryz.f5.params[j]? = some t -> args[j]? = some v -> Value.okWide Tryz.prog W .any base t v := hval0
 have hW' := hW
 obtain ⟨p, q, hA0, hV, rfl, hfz, hnd⟩ := hW
 have hA : DataW.TrodAll enc Tryz.prog W 0 (fun _ => true) true Tryz.f5.params.toList args.toList ds p := hA0
 rw [Tryz.params5] at hA hval
 obtain ⟨v0, vs0, d0, ds0, p0, q0, hargs, rfl, rfl, h0, r0⟩ := trodAll_cons hA
 obtain ⟨rfl, rfl, rfl⟩ := trodAll_nil r0
 obtain rfl : args = #[v0] := by cases args; simp_all
 obtain ⟨rfl, rfl⟩ := trodVars_none hV
 obtain ⟨s0, rfl, rfl, rfl, w0⟩ := ChangeMaps.open_string Tryz.underlying9 (hval 0 9 v0 rfl rfl) h0
 have b0 : s0.size <= 1048576 := by
  have u2 := upto_part hsm (d := .lit (.string s0.data.toList)) (by simp)
  rw [string_bulk] at u2
  rw [Lib.size_eq]
  omega
 clear hA0 hval0
 refine (deskCounts_walk s0 W (by omega) (desk_maxL hsh) (desk_t10 hL) (desk_db hL)).mono fun e W' ⟨he, bel⟩ => ?_
 subst he
 exact ⟨_, rfl, _, _, _, [], _, [], hW', trodAll_mk1 (shut_bool Tryz.underlying4 _), (trodAll_cons_mk (ChangeMaps.shut_string Tryz.underlying9 w0) trodAll_mk0), rfl, bel.frame _, fun h => by cases h⟩
theorem deskCounts_closed : joinedFacts Tryz.checked.prog 5 Tryz.f5 (Rows.OpenSpec.upto Rows.deskCountsSpec).bare Rows.deskCountsUptoRow = true := by
 unfold joinedFacts
 repeat' (with_reducible refine and_true_of ?_ ?_)
 all_goals (as_aux_lemma => kernel_rfl)
theorem deskCounts_over : Rows.deskCountsUptoRow.holds Tryz.pinned (Rows.OpenSpec.upto Rows.deskCountsSpec) :=
 OpenClaim.holds_of_cond 5 Tryz.f5 rfl rfl rfl rfl rfl rfl rfl ⟨rfl, rfl, rfl, rfl, rfl⟩ rfl rfl rfl rfl rfl (by as_aux_lemma => kernel_rfl) Tryz.func5 deskCounts_closed
  (of_decide_eq_true (by as_aux_lemma => kernel_rfl)) (by as_aux_lemma => unfold Func.isWrapper; first | (rw [if_pos (by decide +kernel)]; kernel_rfl) | (rw [if_neg (by decide +kernel)]; exact ⟨rfl, rfl⟩))
  (fun os started H enc _ F => by rw [OpenClaim.pre_eq_preRow]; exact deskCounts_lifted os started H enc F)
theorem deskCounts_proved : Rows.DeskCountsUptoCardSaid :=
 Claim7.holds_tied_plain_at .later [] _ _ _ _ deskCounts_over (fun _ h => by cases h) (by kernel_rfl) (fun _ h => by cases h) deskCountsUpto_row_tie rfl ⟨rfl, rfl⟩ (by kernel_rfl) rfl
  (fun f fn hf hfn => by
   obtain rfl : f = 5 := Option.some.inj ((show Tryz.prog.funcNamed "hedgewright/hedgkeep.DeskCounts" = some 5 by kernel_rfl).symm.trans hf) |>.symm
   obtain rfl : fn = Tryz.f5 := (Option.some.inj (Tryz.func5.symm.trans hfn)).symm
   exact ⟨by kernel_rfl, fun j t ht => by
    have h : (Tryz.f5.params.toList.all fun t => !Tryz.prog.wantsStandIn t) = true := by kernel_rfl
    have hm : t ∈ Tryz.f5.params.toList := by
     rw [Array.mem_toList_iff]
     exact Array.mem_of_getElem? ht
    have h2 : Tryz.prog.wantsStandIn t = false := by simpa using List.all_eq_true.1 h t hm
    exact h2⟩)
  (by kernel_rfl)
end Go.Proofs.YtcljlnagpjilaaaGreatDoor
