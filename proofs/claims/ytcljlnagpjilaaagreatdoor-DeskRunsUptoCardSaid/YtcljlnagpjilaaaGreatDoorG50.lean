/-
  hedgref.DeskLines: what it answers: desk.lines' lines
  desk.Run: what it answers
  hedgref.DeskTold: what it answers: desk.Run's answer
  The frame of a law of the desk's chapter: what the condition gives a walk (DTb, T10; MaxL 
-/
import Derived.Test.YtcljlnagpjilaaaGreatDoorG49
import Derived.Test.YtcljlnagpjilaaaGreatDoorG36
import Derived.Shelf.Strings.BuilderK
import Derived.Test.YtcljlnagpjilaaaGreatDoorG48
import Derived.Test.YtcljlnagpjilaaaGreatDoorG1
import Derived.Lib.LaidTab
import Derived.LaidHandle
import Derived.LaidLaws
import Derived.Stop.LaidErr
import Derived.ShutString
import Derived.Deep.DeepWitnessRowRef

set_option linter.unusedVariables false
set_option linter.unusedSimpArgs false
set_option maxRecDepth 100000
set_option maxHeartbeats 8000000
namespace Go.Proofs.YtcljlnagpjilaaaGreatDoor
open Go.ChangeShapes Go.WideShapes Go.ChangeAt Go.RowKit
theorem splitN_head (s : ByteArray) (c : UInt8) : ∃ r, Lib.splitB ⟨#[c]⟩ 0 (min 2 (s.size + 1) - 1) s = bs (Lib.cut s.data.toList [c]).1 :: r := by
 have hx : ∀ x : ByteArray, bs x.data.toList = x := fun _ => rfl
 have hi : Lib.indexB s ⟨#[c]⟩ = Lib.index s.data.toList [c] := rfl
 have hsz := Lib.size_eq s
 unfold Lib.cut
 rcases index_1 s.data.toList c with ⟨h1, h2⟩ | ⟨i, h1, h2, h3, h4⟩
 ·refine ⟨[], ?_⟩
  rw [h1, if_neg (by decide), Lib.splitB_miss _ _ _ _ (hi.trans h1)]
  rfl
 ·have e1 : min 2 (s.size + 1) - 1 = 0 + 1 := by omega
  rw [e1, Lib.splitB_hit _ _ _ _ i (hi.trans h1), h1, if_pos (by omega)]
  refine ⟨Lib.splitB ⟨#[c]⟩ 0 0 (s.extract (i + (⟨#[c]⟩ : ByteArray).size) s.size), ?_⟩
  congr 1
  rw [<- hx (s.extract 0 (i + 0)), ext_data]
  rfl
theorem splitN_any (s : ByteArray) (c : UInt8) (w : World) (hs : s.size < 4294967281) (hm : MaxL w) : Calls Tryz.prog 16 #[.string s, .string ⟨#[c]⟩, .int .i64 2] w (fun e w' =>
  ∃ (b N C : Nat), e = .returned (.slice (some ⟨b, 0, none⟩) N C) /\ 0 < N /\ N <= C /\ C <= 9223372036854775807 /\ w'.cell? ⟨b, 0, none⟩ = some (.string (bs (Lib.cut s.data.toList [c]).1)) /\ Kp w w') := by
 obtain ⟨m, hm⟩ := hm
 have h := Any.strings_SplitN { lSplitN with } (by kernel_rfl) s ⟨#[c]⟩ 2 m w hs hm (by show 1 <= 1; omega) (by omega) (by omega)
 refine Calls.mono h ?_
 rintro e w' ⟨rfl, rfl⟩
 obtain ⟨r, hr⟩ := splitN_head s c
 have hl := Lib.splitB_length_le ⟨#[c]⟩ 0 (min 2 (s.size + 1) - 1) s
 refine ⟨w.heap.size, _, _, rfl, by rw [hr]; simp, by omega, by omega, ?_, (Kp.refl w).alloc⟩
 rw [hr, cell_of_row _ _ _ _ _ (0, 0) (heap_alloc_new w _)]
 rfl
theorem replace_any (s : ByteArray) (w : World) (hs : s.size < 4294967281) (hm : MaxL w) : Calls Tryz.prog 15 #[.string s, .string ⟨#[9]⟩, .string ⟨#[32]⟩] w (RetS (Lib.replaceAll s.data.toList [9] [32]) w) := by
 obtain ⟨m, hm⟩ := hm
 have hc := Lib.countB_le ⟨#[9]⟩ (by decide) s.size s (Nat.le_refl _)
 have h := Any.strings_ReplaceAll { lReplaceAll with } lReplaceAll_x s ⟨#[9]⟩ ⟨#[32]⟩ m w hs hm (by decide) (by
  have : (⟨#[32]⟩ : ByteArray).size = 1 := rfl
  rw [this]; omega)
 refine Calls.mono h ?_
 rintro e w' ⟨rfl, hb⟩
 exact ⟨rfl, hb⟩
def DlPost (s : ByteArray) (w : World) (e : Ending) (w' : World) : Prop := ∃ v, e = .returned (.tuple #[v, .int .i64 ((linesF s).length : Int)]) /\ RDS w' eStr v (linesF s) /\ Kp w w'
def neF (ps : List ByteArray) : List ByteArray := ps.filter fun w => decide (w ≠ ByteArray.empty)
theorem neF_take (ps : List ByteArray) (k : Nat) (h : k < ps.length) : neF (ps.take (k + 1)) = if ps[k] = ByteArray.empty then neF (ps.take k) else neF (ps.take k) ++ [ps[k]] := by
 unfold neF
 rw [List.take_succ_eq_append_getElem h, List.filter_append]
 split
 ·rename_i h0; simp [h0]
 ·rename_i h0; simp [h0]
theorem neF_len (ps : List ByteArray) : (neF ps).length <= ps.length := List.length_filter_le _ _
def DlIn (ps : List ByteArray) (w : World) (ov jv : Value) (wr : World) : Prop := ∃ j : Nat, j <= ps.length /\ jv = .int .i64 j /\ OW wr w.heap.size 9 eStr ov (neF (ps.take j)) /\ Kp w wr
theorem deskLines_any (s : ByteArray) (w : World) (hs : s.size < 4294967281) (hm : MaxL w) : Calls Tryz.prog 7 #[.string s] w (DlPost s w) := by
 have HS := hide (split_any s nlB w hs (by decide) hm)
 have HM := hide hm
 obtain ⟨ps, hps⟩ : ∃ ps, Lib.splitB nlB 0 (Lib.countB s nlB) s = ps := ⟨_, rfl⟩
 have HL : Hid (linesF s = lnT ps) := hide (by rw [linesF, hps, lnT])
 have HB : Hid (∀ x ∈ ps, x.size <= s.size) := hide (by rw [<- hps]; exact splitB_le nlB 0 _ s)
 have hpl : ps.length <= s.size + 1 := by rw [<- hps, Lib.splitB_all nlB (by decide) 0 _ s rfl]; have := Lib.countB_le nlB (by decide) s.size s (Nat.le_refl _); omega
 rw [hps] at HS
 clear hps hm
 have HSZ := hide hs
 have HPL : Hid (ps.length <= 4294967282) := hide (by omega)
 clear hs hpl
 go_enter Tryz.func7, Tryz.ntmps7
 go_wp2_with fail
 refine HS.out.mono ?_
 rintro e w1 ⟨v1, rfl, hr1, hk1⟩
 obtain ⟨A, c, rfl, hc, hm⟩ := hr1.shape
 have HR := hide hr1
 clear hr1
 go_wp2
 go_loopw [4, 13] (LnRel ps w1) (fun _ i _ => ps.length - (intOf i).toNat)
 case atStart => exact ⟨0, by omega, rfl, OWS.nil, Kp.refl _⟩
 case round =>
  obtain ⟨k, hk, rfl, ho, hkp⟩ := hrel
  have HO := hide ho
  obtain ⟨u, hu⟩ : ∃ u, u = u4 := ⟨_, rfl⟩
  by_cases hlt : k < ps.length
  ·obtain ⟨b, o, rfl, _, x0⟩ := (HR.out.kp hkp).str hlt
   have HT := hide (lnT_take ps k hlt)
   obtain ⟨y, hy⟩ : ∃ y, y = ps[k] := ⟨_, rfl⟩
   have hyb := HB.out y (by rw [hy]; exact List.getElem_mem hlt)
   rw [<- hy] at x0 HT
   have hcl := cut_le y.data.toList [59]
   have hys := Lib.size_eq y
   have hs1 : (bs (Lib.cut y.data.toList [59]).1).size < 4294967281 := by rw [bs_sizeF]; have := HSZ.out; omega
   have hs2 : (bs (Lib.replaceAll (Lib.cut y.data.toList [59]).1 [9] [32])).size < 4294967281 := by rw [bs_sizeF, replaceAll_tab, List.length_map]; have := HSZ.out; omega
   have HC := hide (splitN_any y 59 wr (Nat.lt_of_le_of_lt hyb HSZ.out) (HM.out.kp (hk1.trans hkp)))
   have HF := hide (fun W (h : Kp wr W) => replace_any (bs (Lib.cut y.data.toList [59]).1) W hs1 (HM.out.kp ((hk1.trans hkp).trans h)))
   have HP := hide (fun W (h : Kp wr W) => split_any (bs (Lib.replaceAll (Lib.cut y.data.toList [59]).1 [9] [32])) ⟨#[32]⟩ W hs2 (by decide) (HM.out.kp ((hk1.trans hkp).trans h)))
   have hql : (Lib.splitB ⟨#[32]⟩ 0 (Lib.countB (bs (Lib.replaceAll (Lib.cut y.data.toList [59]).1 [9] [32])) ⟨#[32]⟩) (bs (Lib.replaceAll (Lib.cut y.data.toList [59]).1 [9] [32]))).length <= 4294967282 := by
    rw [Lib.splitB_all ⟨#[32]⟩ (by decide) 0 _ _ rfl]
    have := Lib.countB_le ⟨#[32]⟩ (by decide) _ (bs (Lib.replaceAll (Lib.cut y.data.toList [59]).1 [9] [32])) (Nat.le_refl _)
    omega
   have HD : Hid (neF (Lib.splitB ⟨#[32]⟩ 0 (Lib.countB (bs (Lib.replaceAll (Lib.cut y.data.toList [59]).1 [9] [32])) ⟨#[32]⟩) (bs (Lib.replaceAll (Lib.cut y.data.toList [59]).1 [9] [32]))) = lineW y) := hide (docW_line y)
   obtain ⟨z1, hz1⟩ : ∃ z1, z1 = (Lib.cut y.data.toList [59]).1 := ⟨_, rfl⟩
   rw [<- hz1] at HC HF HP hql HD
   obtain ⟨z2, hz2⟩ : ∃ z2, z2 = Lib.replaceAll z1 [9] [32] := ⟨_, rfl⟩
   rw [show (bs z1).data.toList = z1 from rfl, <- hz2] at HF
   rw [<- hz2] at HP hql HD
   obtain ⟨qs, hqs⟩ : ∃ qs, qs = Lib.splitB ⟨#[32]⟩ 0 (Lib.countB (bs z2) ⟨#[32]⟩) (bs z2) := ⟨_, rfl⟩
   rw [<- hqs] at HP hql HD
   have HQL := hide hql
   clear hy hyb ho hu hcl hys hs1 hs2 hql hz1 hz2 hqs
   go_wp2_with fail
   refine HC.out.mono ?_
   rintro e w2 ⟨b2, N2, C2, rfl, hN, hNC, hC2, x2, hk2⟩
   have hN0 : decide (0 < N2) = true := decide_eq_true hN
   have hNi : (0 : Int) < (N2 : Int) := by omega
   go_wp2_with fail
   refine (HF.out _ hk2).mono ?_
   rintro e w3 ⟨rfl, hk3⟩
   go_wp2_with fail
   refine (HP.out _ (hk2.trans hk3)).mono ?_
   rintro e w4 ⟨v4, rfl, hr4, hk4⟩
   obtain ⟨A4, c4, rfl, hc4, _⟩ := hr4.shape
   have HR4 := hide hr4
   have kk4 := (hk2.trans hk3).trans hk4
   have HOWS := hide (HO.out.kp kk4)
   have HK4 := hide (hkp.trans kk4)
   clear hr4 hk2 hk3 hk4 kk4 HO hkp HC HF HP hN hNC x2
   go_wp2_with fail
   go_loopw [7, 25] (DlIn qs w4) (fun _ i _ => qs.length - (intOf i).toNat)
   case atStart => exact ⟨0, by omega, rfl, OW.nil, Kp.refl _⟩
   case round =>
    obtain ⟨j, hj, rfl, ho, hkp⟩ := hrel
    have hi := ho.hi
    have HO := hide ho
    obtain ⟨u', hu'⟩ : ∃ u', u' = u7 := ⟨_, rfl⟩
    by_cases hjl : j < qs.length
    ·obtain ⟨b, o, rfl, _, y0⟩ := (HR4.out.kp hkp).str hjl
     have HT2 := hide (neF_take qs j hjl)
     obtain ⟨x, hx⟩ : ∃ x, x = qs[j] := ⟨_, rfl⟩
     rw [<- hx] at y0 HT2
     by_cases hxe : x = ByteArray.empty
     ·have hrs : Hid (neF (qs.take (j + 1)) = neF (qs.take j)) := hide (by rw [HT2.out, if_pos hxe])
      subst hxe
      clear hx ho hu'
      go_wp2
      go_roundw
      case rel => exact ⟨j + 1, by omega, by go_num, by rw [hrs.out]; exact HO.out, hkp⟩
      case measure => simp [intOf]; omega
     ·have hrs : Hid (neF (qs.take (j + 1)) = neF (qs.take j) ++ [x]) := hide (by rw [HT2.out, if_neg hxe])
      have hxl : x.toList.isEmpty = false := by
       rw [ByteArray.toList_eq]
       cases h : x.data.toList with
       | nil => exact absurd (ByteArray.ext (Array.toList_inj.1 h)) hxe
       | cons a r => rfl
      have hln := neF_len (qs.take j)
      rw [List.length_take] at hln
      have HM1 : Hid (((neF (qs.take j)).length + [x].length) * 16 <= 140737488355328) := hide (by simp; have := HQL.out; omega)
      have HM2 : Hid ((neF (qs.take j)).length + [x].length <= maxLen) := hide (by simp [maxLen]; have := HQL.out; omega)
      clear hx ho hu' hxe hln
      go_wp2_with (at_builtin; (with_reducible refine list_app (B := w4.heap.size) (l := neF (qs.take j)) (m := [x]) row_str u7 ?_ (.tmp 31) (.tmp 33) ?_ ?_ ?_ ?_ HM1.out HM2.out ?_ ?_); (with_reducible rfl); (with_reducible rfl); rfl; ((with_reducible apply OW.alloc); exact HO.out); (show RD _ _ (.slice (some ⟨_, 0, none⟩) 1 1) _; (exact RD.auto)); (have := hkp.size; simp; omega); intro v3 w3' ho3 hg3 hat3)
      go_roundw
      case rel => exact ⟨j + 1, by omega, by go_num, by rw [hrs.out]; exact ho3, Kp.app hg3 hkp.alloc hi⟩
      case measure => simp [intOf]; omega
    ·have hjk : Hid (neF (qs.take j) = lineW y) := hide (by rw [List.take_of_length_le (by omega), HD.out])
     rw [hjk.out] at HO
     have hrd3 := HO.out.rd
     obtain ⟨A5, c5, hu5, hc5, _⟩ := hrd3.shape
     subst hu5
     have HLE := hide (HO.out.more (Nat.le_trans HK4.out.size (Nat.le_refl _)))
     have HK3 := hide (HK4.out.trans hkp)
     have HOWS3 := hide (HOWS.out.kp hkp)
     obtain ⟨N5, hN5⟩ : ∃ N5, N5 = (lineW y).length := ⟨_, rfl⟩
     rw [<- hN5] at HLE ⊢
     clear hrd3 hc5 HO ho hu' hi hkp HOWS HK4
     by_cases he : N5 = 0
     ·have hrs : Hid (lnT (ps.take (k + 1)) = lnT (ps.take k)) := hide (by
       rw [HT.out, if_pos (List.eq_nil_of_length_eq_zero (by omega))])
      have d1 : decide (0 < N5) = false := by simp [he]
      clear hN5 he
      go_wp2
      go_roundw
      case rel => exact ⟨k + 1, by omega, by go_num, by rw [hrs.out]; exact HOWS3.out, HK3.out⟩
      case measure => simp [intOf] <;> omega
     ·have hrs : Hid (lnT (ps.take (k + 1)) = lnT (ps.take k) ++ [lineW y]) := hide (by
       rw [HT.out, if_neg (fun h => he (by rw [hN5, h]; rfl))])
      have d1 : decide (0 < N5) = true := by simp; omega
      have hln := lnT_len (ps.take k)
      rw [List.length_take] at hln
      have hpl := HPL.out
      obtain ⟨vs, hv, hvl, hin⟩ := HOWS3.out
      obtain ⟨A3, c3, hu3, _, _⟩ := hv.rd.shape
      subst hu3
      have hhi3 := hv.hi
      have HV := hide hv
      have HVL := hide hvl
      have HIN := hide hin
      have HM1 : Hid ((vs.length + [(⟨.slice A5 N5 c5, slice_one A5 N5 c5⟩ : V1)].length) * 24 <= 140737488355328) := hide (by simp; omega)
      have HM2 : Hid (vs.length + [(⟨.slice A5 N5 c5, slice_one A5 N5 c5⟩ : V1)].length <= maxLen) := hide (by simp [maxLen]; omega)
      have HHI3 := hide hhi3
      clear hN5 he hv hvl hin hhi3 hln hpl
      go_wp2_with (at_builtin; (with_reducible refine list_app (B := w1.heap.size) (l := vs) (m := [(⟨.slice A5 N5 c5, slice_one A5 N5 c5⟩ : V1)]) row_strs (.slice A3 vs.length c3) ?_ (.tmp 39) (.tmp 41) ?_ ?_ ?_ ?_ HM1.out HM2.out ?_ ?_); (with_reducible rfl); (with_reducible rfl); rfl; (exact HV.out.alloc _); (show RD _ _ (.slice (some ⟨_, 0, none⟩) 1 1) _; exact RD.new1e _ (by simp) rfl); (have := HK3.out.size; simp; omega); intro v6 w6 ho6 hg6 hat6)
      go_roundw
      case rel =>
       have kka := (Kp.refl wr).alloc (o := .cells #[.slice A5 N5 c5] 26)
       have h1 := OWS.app (u := ⟨.slice A5 N5 c5, slice_one A5 N5 c5⟩) (l := lineW y) (HV.out.kp kka) HVL.out (fun k a b => (HIN.out k a b).kp kka) (by decide) (HLE.out.kp kka) ho6 hg6
       exact ⟨k + 1, by omega, by go_num, by rw [hrs.out]; exact h1, Kp.app hg6 HK3.out.alloc HHI3.out⟩
      case measure => simp [intOf] <;> omega
  ·have hkl : Hid (lnT (ps.take k) = linesF s) := hide (by rw [List.take_of_length_le (by omega), HL.out])
   have HRS := HO.out
   rw [hkl.out] at HRS
   have hln := lnT_len ps
   rw [<- HL.out] at hln
   have hrds := HRS.rds (by have := HPL.out; unfold maxLen; omega)
   have HRD := hide hrds
   obtain ⟨A9, c9, hu9, _, _⟩ := hrds.shape
   subst hu9
   clear ho hu HRS hrds hln
   go_wp2
   go_ret2
   exact ⟨_, rfl, HRD.out, hk1.trans hkp⟩
theorem lStr : Lays.n169 Tryz.prog lJoin_ren := { lJoin with }
theorem bu_kd {B B' g d : Nat} {bs : List Value} {w w' : World} {cs : List Value} (h : Lib.IsBuilderF 44 5 B g bs w) (hd : BC w d 40 cs) (k : KD B' d w w') : Lib.IsBuilderF 44 5 B g bs w' := by
 have key : ∀ p, Lib.BuilderAtF 44 5 B g p bs w -> Lib.BuilderAtF 44 5 B g p bs w' := by
  rintro p ⟨h1, v, h2, h3, h4⟩
  refine ⟨h1, v, k.1 g _ h2 (fun e => ?_) (fun c fz e => ?_), ?_, h4⟩
  ·have e := Option.some.inj e
   subst e
   unfold BC at hd
   rw [h2] at hd
   injection hd with hd
   injection hd with _ e
   exact absurd e (by decide)
  ·injection e with _ e
   exact absurd e (by decide)
  ·refine ⟨h3.1, ?_⟩
   rcases h3.2 with h5 | ⟨g', cap, cur, fz, a1, a2, a3, a4⟩
   ·exact .inl h5
   ·refine .inr ⟨g', cap, cur, fz, a1, a2, k.1 g' _ a3 (fun e => ?_) (fun c fz e => ?_), a4⟩
    ·have e := Option.some.inj e
     subst e
     unfold BC at hd
     rw [a3] at hd
     injection hd with hd
     injection hd with _ e
     exact absurd e (by decide)
    ·injection e with _ e
     exact absurd e (by decide)
 exact h.elim (fun h => .inl (key _ h)) (fun h => .inr (key _ h))
theorem ds_bu {B g d : Nat} {l : List IP} {ops : List O3} {w w' : World} {x : List Value} (h : DS w B d l ops) (hg : BC w g 44 x) (k : Lib.OthersKept 5 (some g) w w') : DS w' B d l ops := by
 obtain ⟨v, u, h1, h2, h3⟩ := h
 have row : ∀ {α : Type} {e : TypeId} {E : Enc α} {v : Value} {l : List α}, e ≠ 5 -> e ≠ 44 -> OW w B e E v l -> OW w' B e E v l := by
  intro α e E v l n1 n2 h
  refine ⟨h.1, ?_⟩
  rcases h.2 with h5 | ⟨g', cap, cur, a1, a2, a3, a4⟩
  ·exact .inl h5
  ·refine .inr ⟨g', cap, cur, a1, a2, k g' _ a3 (fun e1 => ?_) (fun c fz e1 => ?_), a4⟩
   ·have e1 := Option.some.inj e1
    subst e1
    unfold BC at hg
    rw [a3] at hg
    injection hg with hg
    injection hg with _ e2
    exact n2 e2
   ·injection e1 with _ e1
    exact n1 e1
 refine ⟨v, u, k d _ h1 (fun e => ?_) (fun c fz e => ?_), row (by decide) (by decide) h2, row (by decide) (by decide) h3⟩
 ·exact h1.ne hg (by decide) (Option.some.inj e)
 ·injection e with _ e
  exact absurd e (by decide)
theorem bu_bc {B g : Nat} {bs : List Value} {w : World} (h : Lib.IsBuilderF 44 5 B g bs w) : ∃ x, BC w g 44 x := by
 rcases h with ⟨_, v, h, _⟩ | ⟨_, v, h, _⟩
 ·exact ⟨_, h⟩
 ·exact ⟨_, h⟩
def stepD (st : List IP × List O3 × By) (ws : List ByteArray) : List IP × List O3 × By := ((ansW st.1 st.2.1 ws).1, (ansW st.1 st.2.1 ws).2.1, st.2.2 ++ ((ansW st.1 st.2.1 ws).2.2 ++ [10]))
def deskSt (ls : List (List ByteArray)) : List IP × List O3 × By := ls.foldl stepD ([], [], [])
def twoB : By := [101, 114, 114, 111, 114, 32, 50, 10]
def deskRun (s : ByteArray) : By := if 8192 < s.size ∨ 100 < (linesF s).length then twoB else (deskSt (linesF s)).2.2
theorem deskSt_snoc (ls : List (List ByteArray)) (k : Nat) (h : k < ls.length) : deskSt (ls.take (k + 1)) = stepD (deskSt (ls.take k)) ls[k] := by
 unfold deskSt
 rw [List.take_succ_eq_append_getElem h, List.foldl_append]
 rfl
theorem deskSt_in (ls : List (List ByteArray)) : ∀ k, k <= ls.length -> DkIn (deskSt (ls.take k)).1 (deskSt (ls.take k)).2.1 /\ (deskSt (ls.take k)).2.1.length <= k
 | 0, _ => ⟨DkIn.start, Nat.le_refl 0⟩
 | k + 1, h => by
  obtain ⟨h1, h2⟩ := deskSt_in ls k (by omega)
  rw [deskSt_snoc ls k h]
  have := h1.line ls[k]
  exact ⟨this.1, by have := this.2; unfold stepD; simp only; omega⟩
theorem itoa_len (n : Int) (h : -9223372036854775808 <= n /\ n <= 9223372036854775807) : (Lib.itoa n).length <= 21 := Lib.itoa_length_le n h.1 h.2
theorem errB_len (e : Int) (h : -9223372036854775808 <= e /\ e <= 9223372036854775807) : (errB e).length <= 30 := by
 have := itoa_len e h
 unfold errB
 rw [List.length_append]
 have : ([101, 114, 114, 111, 114, 32] : By).length = 6 := rfl
 omega
theorem lineS_len {l : List IP} {ops : List O3} (h : LnOk l ops) {ws : List ByteArray} {s : By} (hs : lineS (l.map Prod.fst) ops ws = .ok s) : s.length <= 100000000000 := by
 have w : ∀ (x : List Int), In64 x -> x.length <= 1000000 -> (wordsF x noneB).length <= 100000000000 := fun x h1 h2 => Nat.le_trans (wordsF_len x h1 h2 noneB (by decide)) (by decide)
 have nn : (noneB : By).length <= 100000000000 := by decide
 unfold lineS at hs
 split at hs
 ·unfold rowsS at hs
  split at hs
  ·injection hs with hs
   subst hs
   split
   ·exact nn
   ·have hj := join_lenN 22000021 [124] ((rowsOf (l.map Prod.fst)).1.map (fun r => wordsF r [])) (fun x hx => by
     obtain ⟨r, hr, rfl⟩ := List.mem_map.1 hx
     exact wordsF_len r (h.rows.2 r hr).2 (h.rows.2 r hr).1 [] (by simp))
    rw [List.length_map] at hj
    have h1 := h.rows.1
    have e1 : ([124] : By).length = 1 := rfl
    rw [e1] at hj
    have := Nat.mul_le_mul_right (1 + 22000021) h1
    omega
  ·cases hs
 ·split at hs
  ·cases hs
  ·split at hs
   ·split at hs
    ·cases hs
    ·rename_i n _
     unfold pathS at hs
     split at hs
     ·injection hs with hs
      subst hs
      exact w _ (h.path n).2 (by rw [List.length_map]; exact (h.path n).1)
     ·cases hs
   ·split at hs
    ·split at hs
     ·cases hs
     ·rename_i t ht
      split at hs
      ·injection hs with hs
       subst hs
       exact w _ (h.tree _ t ht).2.1 (h.tree _ t ht).1
      ·cases hs
    ·split at hs
     ·split at hs
      ·cases hs
      ·rename_i t ht
       split at hs
       ·injection hs with hs
        subst hs
        split
        ·exact nn
        ·have := itoa_len (sumOf t).1 ((h.tree _ t ht).2.2 _ (by simp))
         omega
       ·cases hs
     ·cases hs
theorem told_len {l : List IP} {k key val : Int} {r : An} (h : In64 [r.key, r.val]) : (toldS k r).length <= 100000000000 := by
 have nn : (noneB : By).length <= 100000000000 := by decide
 have hi := itoa_len r.val (h _ (by simp))
 unfold toldS
 split
 ·split <;> decide
 ·split
  ·omega
  ·split
   ·exact nn
   ·split
    ·omega
    ·exact Nat.le_trans (wordsF_len [r.key, r.val] h (by simp) [] (by simp)) (by decide)
theorem askW_len {l : List IP} {ops : List O3} (h : LnOk l ops) {ws : List ByteArray} {x : List IP × List O3 × By} (hx : askW l ops ws = .ok x) : x.2.2.length <= 100000000000 := by
 have key : ∀ k key val, askO l ops k key val = .ok x -> x.2.2.length <= 100000000000 := fun k key val hx => by
  unfold askO at hx
  split at hx
  ·injection hx with hx
   subst hx
   exact told_len (l := l) (key := key) (val := val) (h.ask k key val)
  ·cases hx
 unfold askW at hx
 split at hx
 ·split at hx
  ·cases hx
  ·split at hx
   ·cases hx
   ·split at hx
    ·cases hx
    ·exact key _ _ _ hx
 ·split at hx
  ·cases hx
  ·split at hx
   ·cases hx
   ·exact key _ _ _ hx
theorem ansW_len {l : List IP} {ops : List O3} (h : LnOk l ops) (ws : List ByteArray) : (ansW l ops ws).2.2.length <= 100000000000 := by
 unfold ansW
 split
 ·cases hr : askW l ops ws with
  | ok x => exact askW_len h hr
  | error e =>
   have := errB_len e (askW_err h.err hr)
   simp only
   omega
 ·cases hr : lineS (l.map Prod.fst) ops ws with
  | ok s => exact lineS_len h hr
  | error e =>
   have := errB_len e (h.line ws e hr)
   simp only
   omega
theorem deskSt_len (ls : List (List ByteArray)) (hn : ls.length <= 100) : ∀ k, k <= ls.length -> (deskSt (ls.take k)).2.2.length <= k * 100000000001
 | 0, _ => by simp [deskSt]
 | k + 1, h => by
  have h1 := deskSt_len ls hn k (by omega)
  obtain ⟨h2, h3⟩ := deskSt_in ls k (by omega)
  have h4 := ansW_len (h2.ok (by omega)) ls[k]
  rw [deskSt_snoc ls k h]
  unfold stepD
  simp only [List.length_append, List.length_singleton]
  omega
theorem linesF_ne (s : ByteArray) : ∀ ws ∈ linesF s, ws ≠ [] := fun ws h => by
 have := (List.mem_filter.1 h).2
 simpa using this
theorem linesF_size (s : ByteArray) : ∀ ws ∈ linesF s, ∀ x ∈ ws, x.size <= s.size := fun ws h x hx => by
 obtain ⟨y, hy, rfl⟩ := List.mem_map.1 (List.mem_filter.1 h).1
 have h1 := splitB_le nlB 0 _ s y hy
 have h2 := cut_le y.data.toList [59]
 have h3 := Lib.size_eq y
 unfold lineW Lib.goFieldsP at hx
 obtain ⟨z, _, rfl⟩ := List.mem_map.1 hx
 rw [ByteArray.size_extract]
 have := bs_sizeF (Lib.cut y.data.toList [59]).1
 omega
theorem Kp.trans_bel {a b c d : World} (h : Kp a b) (k : Below a.heap.size b c) (m : Below a.heap.size c d) : Kp a d := Kp.of ((h.bel.trans k).trans m)
def DrRel (ls : List (List ByteArray)) (w : World) (iv : Value) (wr : World) : Prop :=
 ∃ k : Nat, k <= ls.length /\ iv = .int .i64 k /\ DS wr w.heap.size w.heap.size (deskSt (ls.take k)).1 (deskSt (ls.take k)).2.1 /\ Lib.IsBuilderF 44 5 w.heap.size (w.heap.size + 1) (Lib.byteCells (deskSt (ls.take k)).2.2) wr /\ Kp w wr
theorem deskRun_any (s : ByteArray) (w : World) (hs : s.size < 4294967281) (hm : MaxL w) (ht : T10 w) (hdb : DTb w) : Calls Tryz.prog 10 #[.string s] w (RetS (deskRun s) w) := by
 have HL := hide (lines_any s w hs hm)
 have HT := hide (And.intro ht hdb)
 clear hm ht hdb
 obtain ⟨ls, hls⟩ : ∃ ls, linesF s = ls := ⟨_, rfl⟩
 have HNE : Hid (∀ ws ∈ ls, ws ≠ []) := hide (by rw [<- hls]; exact linesF_ne s)
 have HSZ : Hid (∀ ws ∈ ls, ∀ x ∈ ws, x.size <= s.size) := hide (by rw [<- hls]; exact linesF_size s)
 unfold LnPost at HL
 rw [hls] at HL
 by_cases h1 : 8192 < s.size
 ·have H1 : Hid (deskRun s = twoB) := hide (by rw [deskRun, if_pos (.inl h1)])
  have d1 : decide ((8192 : Int) < s.size) = true := decide_eq_true (by omega)
  clear h1 hls
  go_enter Tryz.func10, Tryz.ntmps10
  go_wp2_with fail
  refine HL.out.mono ?_
  rintro e w1 ⟨v, rfl, ho, hk1⟩
  obtain ⟨vs, hvv, hvl, _⟩ := ho
  obtain ⟨A, c, rfl, _, _⟩ := hvv.rd.shape
  clear hvv
  go_wp2
  go_ret
  exact ⟨by rw [H1.out]; rfl, hk1⟩
 ·have d1 : decide ((8192 : Int) < s.size) = false := decide_eq_false (by omega)
  by_cases h2 : 100 < ls.length
  ·have H1 : Hid (deskRun s = twoB) := hide (by rw [deskRun, if_pos (.inr (by rw [hls]; exact h2))])
   have d2 : decide ((100 : Int) < ls.length) = true := decide_eq_true (by omega)
   clear h1 h2 hls
   go_enter Tryz.func10, Tryz.ntmps10
   go_wp2_with fail
   refine HL.out.mono ?_
   rintro e w1 ⟨v, rfl, ho, hk1⟩
   obtain ⟨vs, hvv, hvl, _⟩ := ho
   obtain ⟨A, c, rfl, _, _⟩ := hvv.rd.shape
   clear hvv
   rw [hvl]
   go_wp2
   go_ret
   exact ⟨by rw [H1.out]; rfl, hk1⟩
  ·have H1 : Hid (deskRun s = (deskSt ls).2.2) := hide (by rw [deskRun, hls, if_neg (by omega)])
   have d2 : decide ((100 : Int) < ls.length) = false := decide_eq_false (by omega)
   have HN : Hid (ls.length <= 100) := hide (by omega)
   clear h1 h2 hls
   go_enter Tryz.func10, Tryz.ntmps10
   go_wp2_with fail
   refine HL.out.mono ?_
   rintro e w1 ⟨v, rfl, ho, hk1⟩
   have hrds := ho.rds (by have := HN.out; unfold maxLen; omega)
   obtain ⟨A, c, rfl, _, _⟩ := hrds.shape
   have HR := hide hrds
   have HTT : Hid (TT w1.heap.size w1) := hide (TT.of (HT.out.1.kp hk1) (HT.out.2.kp hk1) (Nat.le_refl _))
   have HK1 := hide hk1
   clear ho hrds hk1
   go_wp2
   go_loopw [22] (DrRel ls w1) (fun i _ => ls.length - (intOf i).toNat)
   case atStart =>
    refine ⟨0, by omega, rfl, ⟨.slice none 0 0, .slice none 0 0, (BC.new w1 _ [.slice none 0 0, .slice none 0 0]).kp (Kp.refl _).alloc, OW.nil, OW.nil⟩, ?_, (Kp.refl w1).alloc.alloc⟩
    have hb := BC.new (w1.alloc (.cells #[.slice none 0 0, .slice none 0 0] 40)) 44 [.pointer none, .slice none 0 0]
    have hz : (w1.alloc (.cells #[.slice none 0 0, .slice none 0 0] 40)).heap.size = w1.heap.size + 1 := by simp
    rw [hz] at hb
    exact .inl ⟨by omega, .slice none 0 0, hb, ⟨rfl, .inl ⟨rfl, rfl⟩⟩, by simp [Value.ownBlock]⟩
   case round =>
    obtain ⟨k, hk, rfl, hds, hbu, hkp⟩ := hrel
    by_cases hlt : k < ls.length
    ·obtain ⟨b, o, u1, rfl, _, x0, hru⟩ := (HR.out.kp hkp).at_ hlt
     obtain ⟨hin, hol⟩ := deskSt_in ls k hk
     have hsl := deskSt_len ls HN.out k hk
     have HSN := hide (deskSt_snoc ls k hlt)
     have hne := HNE.out _ (List.getElem_mem hlt)
     have hsz := HSZ.out _ (List.getElem_mem hlt)
     obtain ⟨y, hy⟩ : ∃ y, y = ls[k] := ⟨_, rfl⟩
     rw [<- hy] at hru HSN hne hsz
     obtain ⟨⟨l, ops, out⟩, hst⟩ : ∃ st, st = deskSt (ls.take k) := ⟨_, rfl⟩
     rw [<- hst] at hds hbu hin hol hsl HSN
     dsimp only at hds hbu hin hol hsl HSN
     have hok := hin.ok (by have := HN.out; omega)
     have HA := hide (answer_any w1.heap.size w1.heap.size l ops y u1 wr hds hru hkp.size (Nat.le_refl _) (HTT.out.go hkp.bel) (fun x hx => by have := hsz x hx; omega) hne hok)
     have hal := ansW_len hok y
     obtain ⟨X, hX⟩ : ∃ X, X = ansW l ops y := ⟨_, rfl⟩
     unfold stepD at HSN
     dsimp only at HSN
     rw [<- hX] at HA hal HSN
     obtain ⟨l', ops', an⟩ := X
     dsimp only at hal HSN
     have hb6 : ¬ (9223372036854775807 < ((bs an).size : Int) + 1) := by rw [bs_size]; omega
     have HSL := hide hsl
     have HAL := hide hal
     have HDS := hide hds
     have HBU := hide hbu
     have HNN := HN.out
     clear hy hst hru hne hsz hin hol hok hsl hal hX hds hbu
     go_wp2_with fail
     refine HA.out.mono ?_
     rintro e w5 ⟨rfl, hkd, hds5⟩
     obtain ⟨v0, u0, hbd, _, _⟩ := id HDS.out
     have hbu5 := bu_kd HBU.out hbd hkd
     obtain ⟨xb, hxb⟩ := bu_bc hbu5
     have HW := hide (Any.Builder_WriteString_k lWrite lJoin_x w1.heap.size (w1.heap.size + 1) (Lib.byteCells out) (bs an ++ ⟨#[10]⟩) w5 hbu5 (by
      have e1 : (bs an ++ ⟨#[10]⟩ : ByteArray).size = an.length + 1 := by rw [ByteArray.size_append, bs_size]; rfl
      rw [e1, Lib.byteCells_length]
      have := HSL.out
      have := HAL.out
      omega) (Nat.le_trans hkp.size hkd.2.size))
     clear hbd
     go_wp2_with fail
     refine HW.out.mono ?_
     rintro e w6 ⟨rfl, hbu6, hb6', hok6⟩
     have hds6 := ds_bu hds5 hxb hok6
     have hcells : Lib.byteCells out ++ Lib.strCells (bs an ++ ⟨#[10]⟩) = Lib.byteCells (out ++ (an ++ [10])) := by
      have e1 : (bs an ++ ⟨#[10]⟩ : ByteArray) = bs (an ++ [10]) := bs_app an [10]
      rw [e1]
      unfold Lib.byteCells Lib.strCells
      rw [List.map_append]
      rfl
     rw [hcells] at hbu6
     have hkp6 : Kp w1 w6 := hkp.trans_bel hkd.2 hb6'
     clear hbu5 hxb hok6 hb6' hkd hds5 hcells HW HA HSL HAL HDS HBU
     go_wp2
     go_roundw
     case rel => exact ⟨k + 1, by omega, by go_num, by rw [HSN.out]; exact hds6, by rw [HSN.out]; exact .inr hbu6, hkp6⟩
     case measure => simp [intOf]; omega
    ·have hkl : Hid (ls.take k = ls) := hide (List.take_of_length_le (by omega))
     rw [hkl.out] at hbu hds
     have HS := hide (Any.Builder_String_any_f lStr lJoin_x w1.heap.size (w1.heap.size + 1) (deskSt ls).2.2 wr hbu hkp.size)
     clear hbu hds
     go_wp2_with fail
     refine HS.out.mono ?_
     rintro e w5 ⟨rfl, _, hb5⟩
     go_wp2
     go_ret
     exact ⟨by rw [H1.out]; rfl, HK1.out.trans (hkp.trans_bel hb5 (Below.refl _ _))⟩
theorem linesF_words (s : ByteArray) (hs : s.size < 4294967281) : ∀ ws ∈ linesF s, (∀ x ∈ ws, x ≠ ByteArray.empty) /\ ws.length <= 4294967296 := fun ws h => by
 obtain ⟨y, hy, rfl⟩ := List.mem_map.1 (List.mem_filter.1 h).1
 have hys := splitB_le nlB 0 _ s y hy
 rw [<- docW_line]
 unfold docW
 refine ⟨fun x hx => ?_, ?_⟩
 ·have := (List.mem_filter.1 hx).2
  simpa using this
 ·have h1 := cut_le y.data.toList [59]
  have h2 := Lib.size_eq y
  have h3 : (bs (Lib.replaceAll (Lib.cut y.data.toList [59]).1 [9] [32])).size <= y.size := by rw [bs_sizeF, replaceAll_tab, List.length_map]; omega
  refine Nat.le_trans (List.length_filter_le _ _) ?_
  rw [Lib.splitB_all ⟨#[32]⟩ (by decide) 0 _ _ rfl]
  have := Lib.countB_le ⟨#[32]⟩ (by decide) _ (bs (Lib.replaceAll (Lib.cut y.data.toList [59]).1 [9] [32])) (Nat.le_refl _)
  omega
def DtRel (ls : List (List ByteArray)) (w : World) (ov lv uv iv : Value) (wr : World) : Prop :=
 ∃ k : Nat, k <= ls.length /\ iv = .int .i64 k /\ ov = .string (bs (deskSt (ls.take k)).2.2) /\ RD wr ePair lv (deskSt (ls.take k)).1 /\ RD wr eOp uv (deskSt (ls.take k)).2.1 /\ Kp w wr
theorem deskTold_any (s : ByteArray) (w : World) (hs : s.size < 4294967281) (hm : MaxL w) : Calls Tryz.prog 11 #[.string s] w (RetS (deskRun s) w) := by
 have HL := hide (deskLines_any s w hs hm)
 clear hm
 have HWD := hide (linesF_words s hs)
 have HNE := hide (linesF_ne s)
 have HSZ := hide (linesF_size s)
 obtain ⟨ls, hls⟩ : ∃ ls, linesF s = ls := ⟨_, rfl⟩
 unfold DlPost at HL
 rw [hls] at HL HWD HNE HSZ
 by_cases h1 : 8192 < s.size
 ·have H1 : Hid (deskRun s = twoB) := hide (by rw [deskRun, if_pos (.inl h1)])
  have d1 : decide ((8192 : Int) < s.size) = true := decide_eq_true (by omega)
  clear h1 hls
  go_enter Tryz.func11, Tryz.ntmps11
  go_wp2_with fail
  refine HL.out.mono ?_
  rintro e w1 ⟨v, rfl, ho, hk1⟩
  obtain ⟨A, c, rfl, _, _⟩ := ho.shape
  clear ho
  go_wp2
  go_ret
  exact ⟨by rw [H1.out]; rfl, hk1⟩
 ·have d1 : decide ((8192 : Int) < s.size) = false := decide_eq_false (by omega)
  by_cases h2 : 100 < ls.length
  ·have H1 : Hid (deskRun s = twoB) := hide (by rw [deskRun, if_pos (.inr (by rw [hls]; exact h2))])
   have d2 : decide ((100 : Int) < ls.length) = true := decide_eq_true (by omega)
   clear h1 h2 hls
   go_enter Tryz.func11, Tryz.ntmps11
   go_wp2_with fail
   refine HL.out.mono ?_
   rintro e w1 ⟨v, rfl, ho, hk1⟩
   obtain ⟨A, c, rfl, _, _⟩ := ho.shape
   clear ho
   go_wp2
   go_ret
   exact ⟨by rw [H1.out]; rfl, hk1⟩
  ·have H1 : Hid (deskRun s = (deskSt ls).2.2) := hide (by rw [deskRun, hls, if_neg (by omega)])
   have d2 : decide ((100 : Int) < ls.length) = false := decide_eq_false (by omega)
   have HN : Hid (ls.length <= 100) := hide (by omega)
   clear h1 h2 hls
   go_enter Tryz.func11, Tryz.ntmps11
   go_wp2_with fail
   refine HL.out.mono ?_
   rintro e w1 ⟨v, rfl, ho, hk1⟩
   obtain ⟨A, c, rfl, _, _⟩ := ho.shape
   have HR := hide ho
   have HK1 := hide hk1
   clear ho hk1
   go_wp2
   go_loopw [5, 6, 7, 25] (DtRel ls w1) (fun _ _ _ i _ => ls.length - (intOf i).toNat)
   case atStart => exact ⟨0, by omega, rfl, rfl, RD.nil, RD.nil, Kp.refl _⟩
   case round =>
    obtain ⟨k, hk, rfl, rfl, hlv, huv, hkp⟩ := hrel
    by_cases hlt : k < ls.length
    ·obtain ⟨b, o, u1, rfl, _, x0, hru⟩ := (HR.out.kp hkp).at_ hlt
     obtain ⟨hin, hol⟩ := deskSt_in ls k hk
     have hsl := deskSt_len ls HN.out k hk
     have HSN := hide (deskSt_snoc ls k hlt)
     have hne := HNE.out _ (List.getElem_mem hlt)
     have hsz := HSZ.out _ (List.getElem_mem hlt)
     have hwd := HWD.out _ (List.getElem_mem hlt)
     obtain ⟨y, hy⟩ : ∃ y, y = ls[k] := ⟨_, rfl⟩
     rw [<- hy] at hru HSN hne hsz hwd
     obtain ⟨⟨l, ops, out⟩, hst⟩ : ∃ st, st = deskSt (ls.take k) := ⟨_, rfl⟩
     rw [<- hst] at hlv huv hin hol hsl HSN ⊢
     dsimp only at hlv huv hin hol hsl HSN ⊢
     have hok := hin.ok (by have := HN.out; omega)
     have HA := hide (deskLine_any l ops y _ _ u1 wr hlv huv hru hin (by have := HN.out; omega) (fun x hx => by have := hsz x hx; omega) hwd.1 hne hwd.2)
     have hal := ansW_len hok y
     obtain ⟨X, hX⟩ : ∃ X, X = ansW l ops y := ⟨_, rfl⟩
     unfold stepD at HSN
     dsimp only at HSN
     rw [<- hX] at HA hal HSN
     obtain ⟨l', ops', an⟩ := X
     dsimp only at hal HSN
     have hs1 := bs_size an
     have hs2 := bs_size out
     have e1 : bs an ++ ⟨#[10]⟩ = bs (an ++ [10]) := bs_app an [10]
     have e2 : bs out ++ bs (an ++ [10]) = bs (out ++ (an ++ [10])) := bs_app _ _
     have hs3 : (bs (an ++ [10])).size = an.length + 1 := by rw [bs_size, List.length_append]; rfl
     have hkn := HN.out
     have hb1 : ¬ (9223372036854775807 < ((bs an).size : Int) + 1) := by rw [hs1]; omega
     have hb2 : ¬ (9223372036854775807 < ((bs out).size : Int) + ((bs (an ++ [10])).size : Int)) := by rw [hs2, hs3]; omega
     have HE2 : Hid (bs (out ++ (an ++ [10])) = bs (out ++ (an ++ [10]))) := hide rfl
     clear hy hst hru hne hsz hin hol hok hsl hal hX hwd hs1 hs2 hs3 hkn hlv huv
     go_wp2_with fail
     refine HA.out.mono ?_
     rintro e w5 ⟨v5, u5', rfl, hv5, hu5, hk5⟩
     have hkp5 := hkp.trans hk5
     go_wp2
     go_roundw
     case rel => exact ⟨k + 1, by omega, by go_num, by rw [HSN.out], by rw [HSN.out]; exact hv5, by rw [HSN.out]; exact hu5, hkp5⟩
     case measure => simp [intOf]; omega
    ·have hkl : Hid (ls.take k = ls) := hide (List.take_of_length_le (by omega))
     clear hlv huv
     go_wp2
     go_ret
     exact ⟨by rw [H1.out]; simp only [hkl.out]; rfl, HK1.out.trans hkp⟩
end Go.Proofs.YtcljlnagpjilaaaGreatDoor
namespace Go.Proofs.YtcljlnagpjilaaaGreatDoor
open Go.ChangeShapes Go.WideShapes Go.ChangeAt Go.RowKit Go.Deep
def DkLaid : List (String × DataW Unit) := [("math/bits.deBruijn32tab", Rows.laid_math_bits_deBruijn32tab), ("math/bits.deBruijn64tab", Rows.laid_math_bits_deBruijn64tab), ("internal/strconv.uint64pow10", Rows.laid_internal_strconv_uint64pow10), ("unicode/utf8.acceptRanges", Rows.laid_unicode_utf8_acceptRanges), ("strconv.ErrRange", Rows.laid_strconv_ErrRange), ("strconv.ErrSyntax", Rows.laid_strconv_ErrSyntax), ("unicode/utf8.first", Rows.laid_unicode_utf8_first)]
theorem gDb : Tryz.prog.globalNamed "math/bits.deBruijn64tab" = some 6 := by kernel_rfl
theorem gDbType : (Tryz.prog.globals[6]?).map (·.type) = some 280 := by kernel_rfl
theorem gPwType : (Tryz.prog.globals[3]?).map (·.type) = some 261 := by kernel_rfl
theorem cellsPw : Tryz.prog.cellsOf 261 = 20 := by kernel_rfl
theorem cellsU64 : Tryz.prog.cellsOf 202 = 1 := by kernel_rfl
theorem cellsTab : Tryz.prog.cellsOf 280 = 64 := by kernel_rfl
theorem cellsU8 : Tryz.prog.cellsOf 5 = 1 := by kernel_rfl
theorem desk_laid {W : World} (h : laidMetH Tryz.prog DkLaid W) : laidMet Tryz.prog DkLaid W := h
theorem desk_db {W : World} (h : laidMetH Tryz.prog DkLaid W) : DTb W := by
 have h1 : laidMet Tryz.prog (("math/bits.deBruijn64tab", Lib.tabData .u8 dbTab) :: DkLaid.tail.tail) W := (desk_laid h).tail
 have hT := Lib.tabIs_of_head gDb gDbType Tryz.underlying280 Tryz.underlying5 cellsU8 cellsTab h1
 intro i hi
 exact hT.cell gDb i (by simpa [dbTab] using hi)
theorem desk_t10 {W : World} (h : laidMetH Tryz.prog DkLaid W) : T10 W := by
 have h1 : laidMet Tryz.prog (("internal/strconv.uint64pow10", Lib.tabData .u64 Lib.pow10Tab) :: DkLaid.tail.tail.tail) W := (desk_laid h).tail.tail
 exact Lib.tabIs_of_head gT10 gPwType Tryz.underlying261 Tryz.underlying202 cellsU64 cellsPw h1
theorem desk_maxL {W : World} (h : W.ShapedOpen Tryz.prog) : MaxL W :=
 Go.Proofs.cell_of_shapedOpen_int (zero := #[.int .i64 0]) (t := 3) h (of_decide_eq_true (by kernel_rfl)) (by kernel_rfl) rfl (by kernel_rfl) (by kernel_rfl) Tryz.underlying3
noncomputable abbrev dkLow : Nat := (World.holding Tryz.prog default ⟨#[], #[], []⟩).heap.size
noncomputable def deskWorld (os : Os) : World :=
 let w0 := World.holding Tryz.prog os ⟨#[.cells #[.string ⟨#[118, 97, 108, 117, 101, 32, 111, 117, 116, 32, 111, 102, 32, 114, 97, 110, 103, 101]⟩] 279, .cells #[.string ⟨#[105, 110, 118, 97, 108, 105, 100, 32, 115, 121, 110, 116, 97, 120]⟩] 279], #[], []⟩
 let put (h : Array Obj) (g : Nat) (cs : Array Value) : Array Obj := h.modify g fun
  | .cells _ t frozen => .cells cs t frozen
  | o => o
 let h0 := put (put w0.heap 5 #[.iface 277 (.pointer (some ⟨dkLow, 0, none⟩))]) 4 #[.iface 277 (.pointer (some ⟨dkLow + 1, 0, none⟩))]
 let h1 := put (put (put h0 3 (Lib.pow10Tab.map fun z => Value.int .u64 z).toArray) 6 (dbTab.map fun z => Value.int .u8 z).toArray) 1 (Pinned.utf8FirstZ.map fun (z : Nat) => Value.int .u8 (z : Int)).toArray
 let h2 := put (put h1 2 (([128, 191, 160, 191, 128, 159, 144, 191, 128, 143, 0, 0, 0, 0, 0, 0, 0, 0, 0, 0, 0, 0, 0, 0, 0, 0, 0, 0, 0, 0, 0, 0] : List Int).map fun z => Value.int .u8 z).toArray) 7 (([0, 1, 28, 2, 29, 14, 24, 3, 30, 22, 20, 15, 25, 17, 4, 8, 31, 27, 13, 23, 21, 19, 16, 7, 26, 12, 18, 6, 11, 5, 10, 9] : List Int).map fun z => Value.int .u8 z).toArray
 { w0 with heap := h2 }
theorem desk_met (os : Os) (args : Array Value) : laidMetH Tryz.prog DkLaid ((deskWorld os).forCall (fun _ _ => 0) ⟨#[], args, []⟩).memory := by
 have h : laidMet Tryz.prog DkLaid ((deskWorld os).forCall (fun _ _ => 0) ⟨#[], args, []⟩).memory := laidMet_of_run' 10 (by kernel_rfl) (by kernel_rfl)
 exact h
theorem string_bulk {H : Type} (bytes : List UInt8) : Rows.uptoBulk (DataW.lit (H := H) (.string bytes)) = bytes.length + 1 := by simp [Rows.uptoBulk]
end Go.Proofs.YtcljlnagpjilaaaGreatDoor
