/-
  hedgkeep.DeskFront
  hedgkeep.DeskFront: THE STATEMENT of the second form: for every input of the bound it answ
-/
import Derived.Test.YtcljlnagpjilaaaGreatDoorG49
import Derived.Test.YtcljlnagpjilaaaGreatDoorCards
import Derived.Test.YtcljlnagpjilaaaGreatDoorTie
import Derived.SevenTiedAt
import Derived.Deep.DeepHandedRow
import Derived.Test.YtcljlnagpjilaaaGreatDoorG1

set_option linter.unusedVariables false
set_option linter.unusedSimpArgs false
set_option maxRecDepth 100000
set_option maxHeartbeats 8000000
namespace Go.Proofs.YtcljlnagpjilaaaGreatDoor
open Go.ChangeShapes Go.WideShapes Go.ChangeAt Go.RowKit
theorem suf_any (s : ByteArray) (w : World) (hs : s.size <= 9223372036854775807) : Calls Tryz.prog 13 #[.string s, .string ⟨#[10]⟩] w (fun e w' => e = .returned (.bool (Lib.hasSuffix s.data.toList [10])) /\ w' = w) :=
 Any.strings_HasSuffix { lHasSuffix with } s ⟨#[10]⟩ w hs
theorem pre_any (s t : By) (w : World) : Calls Tryz.prog 14 #[.string (bs s), .string (bs t)] w (fun e w' => e = .returned (.bool (Lib.hasPrefix s t)) /\ w' = w) :=
 Any.strings_HasPrefix { lHasPrefix with } (bs s) (bs t) w
theorem suf_get {l : By} (h : Lib.hasSuffix l [10] = true) : ∃ k, l = k ++ [10] := by
 unfold Lib.hasSuffix at h
 obtain ⟨k, hk⟩ := List.isSuffixOf_iff_suffix.1 h
 exact ⟨k, hk.symm⟩
theorem pre_app (a r : By) : Lib.hasPrefix (a ++ r) a = true := List.isPrefixOf_iff_prefix.2 ⟨r, rfl⟩
theorem deskFront_walk (a b : ByteArray) (w : World) (ha : a.size <= 1048576) (hb : b.size <= 1048576) (hm : MaxL w) (ht : T10 w) (hdb : DTb w) : Calls Tryz.prog 6 #[.string a, .string b] w (Ret (.bool true) w) := by
 have HM := hide hm
 have HT := hide (And.intro ht hdb)
 have HV := hide (fun w' (k : Kp w w') => deskLives_any w' (hm.kp k) (ht.kp k) (hdb.kp k))
 have HR := hide (fun s (hs : s.size < 4294967281) w' (k : Kp w w') => deskRun_any s w' hs (hm.kp k) (ht.kp k) (hdb.kp k))
 have HL0 := hide (fun s (hs : s.size < 4294967281) w' (k : Kp w w') => deskLines_any s w' hs (hm.kp k))
 clear hm ht hdb
 by_cases h0 : a.data.toList = []
 ·have e0 : a.toList.isEmpty = true := by rw [ByteArray.toList_eq, h0]; rfl
  have HF : Hid (a.data.toList = [] ∨ ∃ l, a.data.toList = l ++ [10]) := hide (.inl h0)
  clear h0
  have hz : Hid ((a ++ b).size = a.size + b.size) := hide ByteArray.size_append
  have hsz : Hid ((a ++ b).size < 4294967281) := hide (by have := hz.out; have := ha; omega)
  have hsa : Hid (a.size < 4294967281) := hide (by have := ha; omega)
  have HL := hide (HL0.out (a ++ b) hsz.out w (Kp.refl w))
  have HX := hide (fun h1 h2 => deskRun_front a b HF.out h1 h2)
  have hwr : IntKind.i64.wrap ((a.size : Int) + (b.size : Int)) = (a.size : Int) + b.size := IntWalk.i64_in _ (by have := ha; omega)
  unfold DlPost at HL
  obtain ⟨n, hn⟩ : ∃ n, n = (linesF (a ++ b)).length := ⟨_, rfl⟩
  rw [<- hn] at HL HX
  clear hn
  by_cases h1 : 8192 < a.size + b.size
  ·have d1 : decide ((8192 : Int) < (a.size : Int) + b.size) = true := decide_eq_true (by omega)
   clear h1
   go_enter Tryz.func6, Tryz.ntmps6
   go_wp2_with fail
   refine HL.out.mono ?_
   rintro e w1 ⟨v, rfl, hr, kk1⟩
   go_wp2_with fail
   refine (HV.out _ kk1).mono ?_
   rintro e w2 ⟨rfl, hb2⟩
   have kk2 := kk1.trans (Kp.of hb2)
   go_wp2_with fail
   refine (HV.out _ kk2).mono ?_
   rintro e w3 ⟨rfl, hb3⟩
   go_wp2
   go_ret
   exact ⟨rfl, (kk2.trans (Kp.of hb3)).bel⟩
  ·have d1 : decide ((8192 : Int) < (a.size : Int) + b.size) = false := decide_eq_false (by omega)
   by_cases h2 : 100 < n
   ·have d2 : decide ((100 : Int) < n) = true := decide_eq_true (by omega)
    clear h1 h2
    go_enter Tryz.func6, Tryz.ntmps6
    go_wp2_with fail
    refine HL.out.mono ?_
    rintro e w1 ⟨v, rfl, hr, kk1⟩
    go_wp2_with fail
    refine (HV.out _ kk1).mono ?_
    rintro e w2 ⟨rfl, hb2⟩
    have kk2 := kk1.trans (Kp.of hb2)
    go_wp2_with fail
    refine (HV.out _ kk2).mono ?_
    rintro e w3 ⟨rfl, hb3⟩
    go_wp2
    go_ret
    exact ⟨rfl, (kk2.trans (Kp.of hb3)).bel⟩
   ·have d2 : decide ((100 : Int) < n) = false := decide_eq_false (by omega)
    obtain ⟨r, hr⟩ := HX.out (by omega) (by omega)
    have HP := hide hr
    clear h1 h2 hr
    go_enter Tryz.func6, Tryz.ntmps6
    go_wp2_with fail
    refine HL.out.mono ?_
    rintro e w1 ⟨v, rfl, hr, kk1⟩
    go_wp2_with fail
    refine (HV.out _ kk1).mono ?_
    rintro e w2 ⟨rfl, hb2⟩
    have kk2 := kk1.trans (Kp.of hb2)
    go_wp2_with fail
    refine (HR.out _ hsz.out _ kk2).mono ?_
    rintro e w3 ⟨rfl, hb3⟩
    have kk3 := kk2.trans hb3
    go_wp2_with fail
    refine (HR.out _ hsa.out _ kk3).mono ?_
    rintro e w4 ⟨rfl, hb4⟩
    have kk4 := kk3.trans hb4
    go_wp2_with fail
    refine (pre_any _ _ _).mono ?_
    rintro e w5 ⟨rfl, rfl⟩
    rw [HP.out, pre_app]
    go_wp2
    go_ret
    exact ⟨rfl, kk4.bel⟩
 ·have e0 : a.toList.isEmpty = false := by rw [ByteArray.toList_eq]; simpa using h0
  by_cases h3 : ∃ l, a.data.toList = l ++ [10]
  ·have HF : Hid (a.data.toList = [] ∨ ∃ l, a.data.toList = l ++ [10]) := hide (.inr h3)
   have HS : Hid (Lib.hasSuffix a.data.toList [10] = true) := hide (by obtain ⟨l, h⟩ := h3; rw [h]; simp [Lib.hasSuffix])
   clear h0 h3
   have hz : Hid ((a ++ b).size = a.size + b.size) := hide ByteArray.size_append
   have hsz : Hid ((a ++ b).size < 4294967281) := hide (by have := hz.out; have := ha; omega)
   have hsa : Hid (a.size < 4294967281) := hide (by have := ha; omega)
   have HL := hide (HL0.out (a ++ b) hsz.out w (Kp.refl w))
   have HX := hide (fun h1 h2 => deskRun_front a b HF.out h1 h2)
   have hwr : IntKind.i64.wrap ((a.size : Int) + (b.size : Int)) = (a.size : Int) + b.size := IntWalk.i64_in _ (by have := ha; omega)
   unfold DlPost at HL
   obtain ⟨n, hn⟩ : ∃ n, n = (linesF (a ++ b)).length := ⟨_, rfl⟩
   rw [<- hn] at HL HX
   clear hn
   by_cases h1 : 8192 < a.size + b.size
   ·have d1 : decide ((8192 : Int) < (a.size : Int) + b.size) = true := decide_eq_true (by omega)
    clear h1
    go_enter Tryz.func6, Tryz.ntmps6
    go_wp2_with fail
    refine (suf_any a w (by omega)).mono ?_
    rintro e w0 ⟨rfl, rfl⟩
    rw [HS.out]
    go_wp2_with fail
    refine HL.out.mono ?_
    rintro e w1 ⟨v, rfl, hr, kk1⟩
    go_wp2_with fail
    refine (HV.out _ kk1).mono ?_
    rintro e w2 ⟨rfl, hb2⟩
    have kk2 := kk1.trans (Kp.of hb2)
    go_wp2_with fail
    refine (HV.out _ kk2).mono ?_
    rintro e w3 ⟨rfl, hb3⟩
    go_wp2
    go_ret
    exact ⟨rfl, (kk2.trans (Kp.of hb3)).bel⟩
   ·have d1 : decide ((8192 : Int) < (a.size : Int) + b.size) = false := decide_eq_false (by omega)
    by_cases h2 : 100 < n
    ·have d2 : decide ((100 : Int) < n) = true := decide_eq_true (by omega)
     clear h1 h2
     go_enter Tryz.func6, Tryz.ntmps6
     go_wp2_with fail
     refine (suf_any a w (by omega)).mono ?_
     rintro e w0 ⟨rfl, rfl⟩
     rw [HS.out]
     go_wp2_with fail
     refine HL.out.mono ?_
     rintro e w1 ⟨v, rfl, hr, kk1⟩
     go_wp2_with fail
     refine (HV.out _ kk1).mono ?_
     rintro e w2 ⟨rfl, hb2⟩
     have kk2 := kk1.trans (Kp.of hb2)
     go_wp2_with fail
     refine (HV.out _ kk2).mono ?_
     rintro e w3 ⟨rfl, hb3⟩
     go_wp2
     go_ret
     exact ⟨rfl, (kk2.trans (Kp.of hb3)).bel⟩
    ·have d2 : decide ((100 : Int) < n) = false := decide_eq_false (by omega)
     obtain ⟨r, hr⟩ := HX.out (by omega) (by omega)
     have HP := hide hr
     clear h1 h2 hr
     go_enter Tryz.func6, Tryz.ntmps6
     go_wp2_with fail
     refine (suf_any a w (by omega)).mono ?_
     rintro e w0 ⟨rfl, rfl⟩
     rw [HS.out]
     go_wp2_with fail
     refine HL.out.mono ?_
     rintro e w1 ⟨v, rfl, hr, kk1⟩
     go_wp2_with fail
     refine (HV.out _ kk1).mono ?_
     rintro e w2 ⟨rfl, hb2⟩
     have kk2 := kk1.trans (Kp.of hb2)
     go_wp2_with fail
     refine (HR.out _ hsz.out _ kk2).mono ?_
     rintro e w3 ⟨rfl, hb3⟩
     have kk3 := kk2.trans hb3
     go_wp2_with fail
     refine (HR.out _ hsa.out _ kk3).mono ?_
     rintro e w4 ⟨rfl, hb4⟩
     have kk4 := kk3.trans hb4
     go_wp2_with fail
     refine (pre_any _ _ _).mono ?_
     rintro e w5 ⟨rfl, rfl⟩
     rw [HP.out, pre_app]
     go_wp2
     go_ret
     exact ⟨rfl, kk4.bel⟩
  ·have HF : Hid ((a ++ ⟨#[10]⟩ : ByteArray).data.toList = [] ∨ ∃ l, (a ++ ⟨#[10]⟩ : ByteArray).data.toList = l ++ [10]) := hide (.inr ⟨a.data.toList, by simp⟩)
   have HS : Hid (Lib.hasSuffix a.data.toList [10] = false) := hide (by rw [Bool.eq_false_iff]; intro h; apply h3; exact suf_get h)
   have hA : (a ++ ⟨#[10]⟩ : ByteArray).size = a.size + 1 := ByteArray.size_append
   clear h0 h3
   have hz : Hid (((a ++ ⟨#[10]⟩ : ByteArray) ++ b).size = (a ++ ⟨#[10]⟩ : ByteArray).size + b.size) := hide ByteArray.size_append
   have hsz : Hid (((a ++ ⟨#[10]⟩ : ByteArray) ++ b).size < 4294967281) := hide (by have := hz.out; have := hA; omega)
   have hsa : Hid ((a ++ ⟨#[10]⟩ : ByteArray).size < 4294967281) := hide (by have := hA; omega)
   have HL := hide (HL0.out ((a ++ ⟨#[10]⟩ : ByteArray) ++ b) hsz.out w (Kp.refl w))
   have HX := hide (fun h1 h2 => deskRun_front (a ++ ⟨#[10]⟩ : ByteArray) b HF.out h1 h2)
   have hwr : IntKind.i64.wrap (((a.size : Int) + 1) + (b.size : Int)) = ((a.size : Int) + 1) + b.size := IntWalk.i64_in _ (by have := hA; omega)
   unfold DlPost at HL
   obtain ⟨n, hn⟩ : ∃ n, n = (linesF ((a ++ ⟨#[10]⟩ : ByteArray) ++ b)).length := ⟨_, rfl⟩
   rw [<- hn] at HL HX
   clear hn
   by_cases h1 : 8192 < (a ++ ⟨#[10]⟩ : ByteArray).size + b.size
   ·have d1 : decide ((8192 : Int) < ((a.size : Int) + 1) + b.size) = true := decide_eq_true (by omega)
    clear h1
    go_enter Tryz.func6, Tryz.ntmps6
    go_wp2_with fail
    refine (suf_any a w (by omega)).mono ?_
    rintro e w0 ⟨rfl, rfl⟩
    rw [HS.out]
    go_wp2_with fail
    refine HL.out.mono ?_
    rintro e w1 ⟨v, rfl, hr, kk1⟩
    go_wp2_with fail
    refine (HV.out _ kk1).mono ?_
    rintro e w2 ⟨rfl, hb2⟩
    have kk2 := kk1.trans (Kp.of hb2)
    go_wp2_with fail
    refine (HV.out _ kk2).mono ?_
    rintro e w3 ⟨rfl, hb3⟩
    go_wp2
    go_ret
    exact ⟨rfl, (kk2.trans (Kp.of hb3)).bel⟩
   ·have d1 : decide ((8192 : Int) < ((a.size : Int) + 1) + b.size) = false := decide_eq_false (by omega)
    by_cases h2 : 100 < n
    ·have d2 : decide ((100 : Int) < n) = true := decide_eq_true (by omega)
     clear h1 h2
     go_enter Tryz.func6, Tryz.ntmps6
     go_wp2_with fail
     refine (suf_any a w (by omega)).mono ?_
     rintro e w0 ⟨rfl, rfl⟩
     rw [HS.out]
     go_wp2_with fail
     refine HL.out.mono ?_
     rintro e w1 ⟨v, rfl, hr, kk1⟩
     go_wp2_with fail
     refine (HV.out _ kk1).mono ?_
     rintro e w2 ⟨rfl, hb2⟩
     have kk2 := kk1.trans (Kp.of hb2)
     go_wp2_with fail
     refine (HV.out _ kk2).mono ?_
     rintro e w3 ⟨rfl, hb3⟩
     go_wp2
     go_ret
     exact ⟨rfl, (kk2.trans (Kp.of hb3)).bel⟩
    ·have d2 : decide ((100 : Int) < n) = false := decide_eq_false (by omega)
     obtain ⟨r, hr⟩ := HX.out (by omega) (by omega)
     have HP := hide hr
     clear h1 h2 hr
     go_enter Tryz.func6, Tryz.ntmps6
     go_wp2_with fail
     refine (suf_any a w (by omega)).mono ?_
     rintro e w0 ⟨rfl, rfl⟩
     rw [HS.out]
     go_wp2_with fail
     refine HL.out.mono ?_
     rintro e w1 ⟨v, rfl, hr, kk1⟩
     go_wp2_with fail
     refine (HV.out _ kk1).mono ?_
     rintro e w2 ⟨rfl, hb2⟩
     have kk2 := kk1.trans (Kp.of hb2)
     go_wp2_with fail
     refine (HR.out _ hsz.out _ kk2).mono ?_
     rintro e w3 ⟨rfl, hb3⟩
     have kk3 := kk2.trans hb3
     go_wp2_with fail
     refine (HR.out _ hsa.out _ kk3).mono ?_
     rintro e w4 ⟨rfl, hb4⟩
     have kk4 := kk3.trans hb4
     go_wp2_with fail
     refine (pre_any _ _ _).mono ?_
     rintro e w5 ⟨rfl, rfl⟩
     rw [HP.out, pre_app]
     go_wp2
     go_ret
     exact ⟨rfl, kk4.bel⟩
end Go.Proofs.YtcljlnagpjilaaaGreatDoor
namespace Go.Proofs.YtcljlnagpjilaaaGreatDoor
open Go.ChangeShapes Go.WideShapes Go.ChangeAt Go.RowKit Go.Deep
theorem deskFront_reads (os : Os) {H : Type} (enc : TypeId × Value -> H) : ∃ places, DataW.whole enc Tryz.prog ((deskWorld os).forCall (fun _ _ => 0) ⟨#[], #[.string ⟨#[]⟩, .string ⟨#[]⟩], []⟩).memory Tryz.f6.params.toList Rows.deskFrontSpec.vars false #[.string ⟨#[]⟩, .string ⟨#[]⟩].toList 8 = some ([.lit (.string []), .lit (.string [])], [], places) :=
 ⟨[], by kernel_rfl⟩
theorem deskFront_lifted (os : Os) (started : os.Started) (H : Type) (enc : TypeId × Value -> H) (F : Stop.Interp) :
  ReturnsInHanded {} Tryz.checked os 6 .any ((Rows.OpenSpec.upto Rows.deskFrontSpec).preRow enc Tryz.prog Tryz.f6 Rows.deskFrontUptoRow.domain false Rows.deskFrontUptoRow.laid) (((Rows.OpenSpec.upto Rows.deskFrontSpec).at F).post enc Tryz.prog Tryz.f6 false true false false) := by
 obtain ⟨places, hx⟩ := deskFront_reads os enc
 refine returnsInHanded_of_row (C := Tryz.checked) (s := Rows.OpenSpec.upto Rows.deskFrontSpec) own started (by kernel_rfl) Tryz.func6
  (witness_row_atRef (enc := enc) (C := Tryz.checked) false (deskWorld os) #[.string ⟨#[]⟩, .string ⟨#[]⟩] rfl (by kernel_rfl) (by kernel_rfl) (by kernel_rfl)
   (OpenSpec.preRow_of_cond 8 hx (by kernel_rfl) (fun k hk => by cases hk; kernel_rfl) (by kernel_rfl) (desk_met os _))) ?_
 intro W base args ds gs before hval0 hW hcnd hsm hsz hL hsh _
 have hsm := hsm _ rfl
 have hval : ∀ (j : Nat) t v, Tryz.f6.params[j]? = some t -> args[j]? = some v -> Value.okWide Tryz.prog W .any base t v := hval0
 have hW' := hW
 obtain ⟨p, q, hA0, hV, rfl, hfz, hnd⟩ := hW
 have hA : DataW.TrodAll enc Tryz.prog W 0 (fun _ => true) true Tryz.f6.params.toList args.toList ds p := hA0
 rw [Tryz.params6] at hA hval
 obtain ⟨v0, vs0, d0, ds0, p0, q0, hargs, rfl, rfl, h0, r0⟩ := trodAll_cons hA
 obtain ⟨v1, vs1, d1, ds1, p1, q1, rfl, rfl, rfl, h1, r1⟩ := trodAll_cons r0
 obtain ⟨rfl, rfl, rfl⟩ := trodAll_nil r1
 obtain rfl : args = #[v0, v1] := by cases args; simp_all
 obtain ⟨rfl, rfl⟩ := trodVars_none hV
 obtain ⟨s0, rfl, rfl, rfl, w0⟩ := ChangeMaps.open_string Tryz.underlying9 (hval 0 9 v0 rfl rfl) h0
 obtain ⟨s1, rfl, rfl, rfl, w1⟩ := ChangeMaps.open_string Tryz.underlying9 (hval 1 9 v1 rfl rfl) h1
 have b0 : s0.size <= 1048576 := by
  have u2 := upto_part hsm (d := .lit (.string s0.data.toList)) (by simp)
  rw [string_bulk] at u2
  rw [Lib.size_eq]
  omega
 have b1 : s1.size <= 1048576 := by
  have u2 := upto_part hsm (d := .lit (.string s1.data.toList)) (by simp)
  rw [string_bulk] at u2
  rw [Lib.size_eq]
  omega
 clear hA0 hval0
 refine (deskFront_walk s0 s1 W (by omega) (by omega) (desk_maxL hsh) (desk_t10 hL) (desk_db hL)).mono fun e W' ⟨he, bel⟩ => ?_
 subst he
 exact ⟨_, rfl, _, _, _, [], _, [], hW', trodAll_mk1 (shut_bool Tryz.underlying4 _), (trodAll_cons_mk (ChangeMaps.shut_string Tryz.underlying9 w0) (trodAll_cons_mk (ChangeMaps.shut_string Tryz.underlying9 w1) trodAll_mk0)), rfl, bel.frame _, fun h => by cases h⟩
theorem deskFront_closed : joinedFacts Tryz.checked.prog 6 Tryz.f6 (Rows.OpenSpec.upto Rows.deskFrontSpec).bare Rows.deskFrontUptoRow = true := by
 unfold joinedFacts
 repeat' (with_reducible refine and_true_of ?_ ?_)
 all_goals (as_aux_lemma => kernel_rfl)
theorem deskFront_over : Rows.deskFrontUptoRow.holds Tryz.pinned (Rows.OpenSpec.upto Rows.deskFrontSpec) :=
 OpenClaim.holds_of_cond 6 Tryz.f6 rfl rfl rfl rfl rfl rfl rfl ⟨rfl, rfl, rfl, rfl, rfl⟩ rfl rfl rfl rfl rfl (by as_aux_lemma => kernel_rfl) Tryz.func6 deskFront_closed
  (of_decide_eq_true (by as_aux_lemma => kernel_rfl)) (by as_aux_lemma => unfold Func.isWrapper; first | (rw [if_pos (by decide +kernel)]; kernel_rfl) | (rw [if_neg (by decide +kernel)]; exact ⟨rfl, rfl⟩))
  (fun os started H enc _ F => by rw [OpenClaim.pre_eq_preRow]; exact deskFront_lifted os started H enc F)
theorem deskFront_proved : Rows.DeskFrontUptoCardSaid :=
 Claim7.holds_tied_plain_at .later [] _ _ _ _ deskFront_over (fun _ h => by cases h) (by kernel_rfl) (fun _ h => by cases h) deskFrontUpto_row_tie rfl ⟨rfl, rfl⟩ (by kernel_rfl) rfl
  (fun f fn hf hfn => by
   obtain rfl : f = 6 := Option.some.inj ((show Tryz.prog.funcNamed "hedgewright/hedgkeep.DeskFront" = some 6 by kernel_rfl).symm.trans hf) |>.symm
   obtain rfl : fn = Tryz.f6 := (Option.some.inj (Tryz.func6.symm.trans hfn)).symm
   exact ⟨by kernel_rfl, fun j t ht => by
    have h : (Tryz.f6.params.toList.all fun t => !Tryz.prog.wantsStandIn t) = true := by kernel_rfl
    have hm : t ∈ Tryz.f6.params.toList := by
     rw [Array.mem_toList_iff]
     exact Array.mem_of_getElem? ht
    have h2 : Tryz.prog.wantsStandIn t = false := by simpa using List.all_eq_true.1 h t hm
    exact h2⟩)
  (by kernel_rfl)
end Go.Proofs.YtcljlnagpjilaaaGreatDoor
