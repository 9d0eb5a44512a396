/-
  desk.path: what it answers
  strings.Join and desk.rows: what they answer
-/
import Derived.Test.YtcljlnagpjilaaaGreatDoorG4
import Derived.Test.YtcljlnagpjilaaaGreatDoorG14

set_option linter.unusedVariables false
set_option linter.unusedSimpArgs false
set_option maxRecDepth 100000
set_option maxHeartbeats 8000000
namespace Go.Proofs.YtcljlnagpjilaaaGreatDoor
open Go.ChangeShapes Go.WideShapes Go.ChangeAt Go.RowKit
def OrS (r : Except Int By) (w : World) (e : Ending) (w' : World) : Prop := (match r with | .ok l => e = .returned (.string (bs l)) | .error k => e = slipE k) /\ Kp w w'
def noneB : By := [110, 111, 110, 101]
def pathS (ks : List Int) (key : Int) : Except Int By := if (pathOf ks key).2 = 0 then .ok (wordsF ((pathOf ks key).1.map Prod.snd) noneB) else .error (pathOf ks key).2
def DpaRel (p : List IP) (w : World) (ov iv : Value) (wr : World) : Prop := ∃ k : Nat, k <= p.length /\ iv = .int .i64 k /\ OW wr w.heap.size 3 eInt ov ((p.take k).map Prod.snd) /\ Kp w wr
theorem deskPath_any (d : Nat) (l : List IP) (key : Int) (v : Value) (w : World) (hc0 : w.cell? ⟨d, 0, none⟩ = some v) (hr : RD w ePair v l) (hn : l.length <= 1000000) (hdb : DTb w) (ht : T10 w)
  (hpl : (pathOf (l.map Prod.fst) key).1.length <= 1000000) (h64 : In64 ((pathOf (l.map Prod.fst) key).1.map Prod.snd)) :
  Calls Tryz.prog 40 #[.pointer (some ⟨d, 0, none⟩), .int .i64 key] w (OrS (pathS (l.map Prod.fst) key) w) := by
 have HK := hide (deskKeys_any d l v w hc0 hr hn)
 have HDB := hide hdb
 have HT := hide ht
 obtain ⟨ks, hks⟩ : ∃ ks, l.map Prod.fst = ks := ⟨_, rfl⟩
 rw [hks] at HK hpl h64 ⊢
 clear hks
 obtain ⟨p, hp⟩ : ∃ p, pathOf ks key = p := ⟨_, rfl⟩
 rw [hp] at hpl h64
 have HP := hide hp
 clear hp hr hdb ht hc0
 obtain ⟨p, er⟩ := p
 have H64 := hide h64
 clear h64
 by_cases he : er = 0
 ·subst he
  have H1 : Hid (pathS ks key = .ok (wordsF (p.map Prod.snd) noneB)) := hide (by rw [pathS, HP.out, if_pos rfl])
  go_enter Tryz.func40, Tryz.ntmps40
  go_wp2_with fail
  with_reducible refine HK.out.mono ?_
  rintro e w1 ⟨v1, rfl, ho1, hk1⟩
  have hr1 := hide ho1.rd
  have hk1 := Kp.of hk1
  obtain ⟨A1, c1, rfl, hc1, _⟩ := ho1.rd.shape
  clear ho1
  go_wp2_with fail
  with_reducible refine (skPath_any ks key _ w1 hr1.out (HDB.out.kp hk1)).mono ?_
  rw [HP.out]
  rintro e w2 ⟨v2, rfl, hr2, hk2⟩
  have hk2 := hk1.trans (Kp.of hk2)
  obtain ⟨A, c, rfl, hc, hm⟩ := hr2.shape
  have HR := hide hr2
  clear hr2
  go_wp2_with fail
  with_reducible refine (must_any 0 _).mono ?_
  rintro e w3 ⟨he, rfl⟩
  rw [if_pos rfl] at he
  subst he
  go_wp2
  go_loopw [7, 21] (DpaRel p w2) (fun _ i _ => p.length - (intOf i).toNat)
  case atStart => exact ⟨0, by omega, rfl, OW.nil, Kp.refl _⟩
  case round =>
   obtain ⟨k, hk, rfl, ho, hkp⟩ := hrel
   have hi := ho.hi
   have HO := hide ho
   obtain ⟨u, hu⟩ : ∃ u, u = u7 := ⟨_, rfl⟩
   by_cases hlt : k < p.length
   ·obtain ⟨b, o, rfl, _, x0, x1⟩ := (HR.out.kp hkp).pair hlt
    obtain ⟨y, hy⟩ : ∃ y, y = p[k].2 := ⟨_, rfl⟩
    rw [<- hy] at x1
    have HN : Hid ((p.take k).map Prod.snd ++ [y] = (p.take (k + 1)).map Prod.snd) := hide (by rw [List.take_succ_eq_append_getElem hlt, List.map_append, hy]; rfl)
    have HM1 : Hid ((((p.take k).map Prod.snd).length + [y].length) * 8 <= 140737488355328) := hide (by simp at hpl ⊢; omega)
    have HM2 : Hid (((p.take k).map Prod.snd).length + [y].length <= maxLen) := hide (by simp [maxLen] at hpl ⊢; omega)
    clear hy ho hu
    go_wp2_with (at_builtin; (with_reducible refine list_app (B := w2.heap.size) (l := (p.take k).map Prod.snd) (m := [y]) row_int u7 ?_ (.tmp 25) (.tmp 28) ?_ ?_ ?_ ?_ HM1.out HM2.out ?_ ?_); (with_reducible rfl); (with_reducible rfl); rfl; ((with_reducible apply OW.alloc); (with_reducible apply OW.alloc); exact HO.out); (show RD _ _ (.slice (some ⟨_, 0, none⟩) 1 1) _; (exact RD.auto)); (have := hkp.size; simp; omega); intro v3 w3 ho3 hg3 hat3)
    go_roundw
    case rel => exact ⟨k + 1, by omega, by go_num, by rw [<- HN.out]; exact ho3, Kp.app hg3 hkp.alloc.alloc hi⟩
    case measure => simp [intOf]; omega
   ·have hkl : Hid ((p.take k).map Prod.snd = p.map Prod.snd) := hide (by rw [List.take_of_length_le (by omega)])
    have hrd := HO.out.rd
    rw [hkl.out] at hrd
    have HW := hide (words_any (p.map Prod.snd) u7 noneB wr hrd (by rw [List.length_map]; exact hpl) H64.out (HT.out.kp (hk2.trans hkp)))
    clear ho hu hrd hi
    go_wp2_with fail
    refine HW.out.mono ?_
    rintro e w4 ⟨rfl, hk4⟩
    have hkp4 := (hk2.trans hkp).trans hk4
    go_wp2
    go_ret
    exact ⟨by rw [H1.out]; rfl, hkp4⟩
 ·have H1 : Hid (pathS ks key = .error er) := hide (by rw [pathS, HP.out, if_neg he])
  go_enter Tryz.func40, Tryz.ntmps40
  go_wp2_with fail
  with_reducible refine HK.out.mono ?_
  rintro e w1 ⟨v1, rfl, ho1, hk1⟩
  have hr1 := hide ho1.rd
  have hk1 := Kp.of hk1
  obtain ⟨A1, c1, rfl, hc1, _⟩ := ho1.rd.shape
  clear ho1
  go_wp2_with fail
  with_reducible refine (skPath_any ks key _ w1 hr1.out (HDB.out.kp hk1)).mono ?_
  rw [HP.out]
  rintro e w2 ⟨v2, rfl, hr2, hk2⟩
  have hk2 := hk1.trans (Kp.of hk2)
  clear hr2
  go_wp2_with fail
  with_reducible refine (must_any er _).mono ?_
  rintro e w3 ⟨hm, rfl⟩
  rw [if_neg he, slipE] at hm
  subst hm
  go_wp2
  exact ⟨rfl, by unfold OrS; rw [H1.out]; exact ⟨rfl, hk2⟩⟩
theorem join_any (xs : List By) (sep : By) (v : Value) (w : World) (hr : RD w eStr v (xs.map bs)) (hn : xs.length <= 140737488355328) (hl : (Lib.join xs sep).length <= 140737488355328) :
  Calls Tryz.prog 54 #[v, .string (bs sep)] w (RetS (Lib.join xs sep) w) := by
 obtain ⟨A, c, rfl, hc, _⟩ := hr.shape
 have hlm : (xs.map bs).length = xs.length := List.length_map _
 have hj : (xs.map bs).map (·.data.toList) = xs := by rw [List.map_map]; exact (List.map_congr_left (fun n _ => rfl)).trans (List.map_id xs)
 by_cases h0 : xs = []
 ·subst h0
  refine (Any.strings_Join_none lJoin lJoin_x A c (bs sep) w).mono ?_
  rintro e w' ⟨rfl, rfl⟩
  exact ⟨rfl, Kp.refl _⟩
 ·obtain ⟨b, o, rfl, hb, hx⟩ := hr.str (k := 0) (by rw [hlm]; exact List.length_pos_iff.2 h0)
  have h := Any.strings_Join lJoin lJoin_x b o c (xs.map bs) (bs sep) w (fun j x hx => by
   have hj := (List.getElem?_eq_some_iff.1 hx).1
   rw [hr.strs j hj, List.getD_eq_getElem?_getD, hx]; rfl) hb (by rw [hlm]; exact hn) hc (by show (Lib.join ((xs.map bs).map (·.data.toList)) sep).length <= _; rw [hj]; exact hl)
  refine Calls.mono h ?_
  rintro e w' ⟨rfl, hk⟩
  have e2 : (Lib.join ((xs.map bs).map (·.data.toList)) (bs sep).data.toList) = Lib.join xs sep := by rw [hj]; rfl
  rw [e2]
  exact ⟨rfl, hk⟩
theorem joinTail_lenN (N : Nat) (sep : By) : ∀ r : List By, (∀ x ∈ r, x.length <= N) -> (Lib.joinTail sep r).length <= r.length * (sep.length + N)
 | [], _ => by simp [Lib.joinTail]
 | x :: r, h => by
  have h1 := joinTail_lenN N sep r (fun y hy => h y (List.mem_cons_of_mem _ hy))
  have h2 := h x List.mem_cons_self
  have h3 : Lib.joinTail sep (x :: r) = (sep ++ x) ++ Lib.joinTail sep r := by simp [Lib.joinTail]
  rw [h3, List.length_append, List.length_append, List.length_cons, Nat.add_mul]
  omega
theorem join_lenN (N : Nat) (sep : By) (l : List By) (h : ∀ x ∈ l, x.length <= N) : (Lib.join l sep).length <= l.length * (sep.length + N) := by
 cases l with
 | nil => simp [Lib.join_nil]
 | cons x r =>
  rw [Lib.join_cons, List.length_append]
  have h1 := joinTail_lenN N sep r (fun y hy => h y (List.mem_cons_of_mem _ hy))
  have h2 := h x List.mem_cons_self
  rw [List.length_cons, Nat.add_mul]
  omega
theorem wordsF_len (l : List Int) (h : In64 l) (hn : l.length <= 1000000) (no : By) (hno : no.length <= 22000021) : (wordsF l no).length <= 22000021 := by
 unfold wordsF
 split
 ·exact hno
 ·have := words_len l h; omega
def rowsS (ks : List Int) : Except Int By := if (rowsOf ks).2 = 0 then .ok (if (rowsOf ks).1 = [] then noneB else Lib.join ((rowsOf ks).1.map (fun r => wordsF r [])) [124]) else .error (rowsOf ks).2
def DroRel (p : List (List Int)) (w : World) (ov iv : Value) (wr : World) : Prop := ∃ k : Nat, k <= p.length /\ iv = .int .i64 k /\ OW wr w.heap.size 9 eStr ov ((p.take k).map (fun r => bs (wordsF r []))) /\ Kp w wr
theorem deskRows_any (d : Nat) (l : List IP) (v : Value) (w : World) (hc0 : w.cell? ⟨d, 0, none⟩ = some v) (hr : RD w ePair v l) (hn : l.length <= 1000000) (hdb : DTb w) (ht : T10 w)
  (hpl : (rowsOf (l.map Prod.fst)).1.length <= 1000) (h64 : ∀ r ∈ (rowsOf (l.map Prod.fst)).1, r.length <= 1000000 /\ In64 r) :
  Calls Tryz.prog 38 #[.pointer (some ⟨d, 0, none⟩)] w (OrS (rowsS (l.map Prod.fst)) w) := by
 have HK := hide (deskKeys_any d l v w hc0 hr hn)
 have HDB := hide hdb
 have HT := hide ht
 obtain ⟨ks, hks⟩ : ∃ ks, l.map Prod.fst = ks := ⟨_, rfl⟩
 rw [hks] at HK hpl h64 ⊢
 clear hks
 obtain ⟨p, hp⟩ : ∃ p, rowsOf ks = p := ⟨_, rfl⟩
 rw [hp] at hpl h64
 have HP := hide hp
 clear hp hr hdb ht hc0
 obtain ⟨p, er⟩ := p
 have H64 := hide h64
 clear h64
 by_cases he : er = 0
 ·subst he
  have H1 : Hid (rowsS ks = .ok (if p = [] then noneB else Lib.join (p.map (fun r => wordsF r [])) [124])) := hide (by rw [rowsS, HP.out, if_pos rfl])
  go_enter Tryz.func38, Tryz.ntmps38
  go_wp2_with fail
  with_reducible refine HK.out.mono ?_
  rintro e w1 ⟨v1, rfl, ho1, hk1⟩
  have hr1 := hide ho1.rd
  have hk1 := Kp.of hk1
  obtain ⟨A1, c1, rfl, hc1, _⟩ := ho1.rd.shape
  clear ho1
  go_wp2_with fail
  with_reducible refine (skRows_any ks _ w1 hr1.out (HDB.out.kp hk1)).mono ?_
  rw [HP.out]
  rintro e w2 ⟨v2, rfl, hr2, hk2⟩
  have hk2 := hk1.trans hk2
  obtain ⟨A, c, rfl, hc, hm⟩ := hr2.shape
  have HR := hide hr2
  clear hr2
  go_wp2_with fail
  refine (must_any 0 _).mono ?_
  rintro e w3 ⟨he, rfl⟩
  rw [if_pos rfl] at he
  subst he
  go_wp2
  go_loopw [5, 18] (DroRel p w2) (fun _ i _ => p.length - (intOf i).toNat)
  case atStart => exact ⟨0, by omega, rfl, OW.nil, Kp.refl _⟩
  case round =>
   obtain ⟨k, hk, rfl, ho, hkp⟩ := hrel
   have hi := ho.hi
   have HO := hide ho
   obtain ⟨u, hu⟩ : ∃ u, u = u5 := ⟨_, rfl⟩
   by_cases hlt : k < p.length
   ·obtain ⟨b, o, u1, rfl, _, x0, hru⟩ := (HR.out.kp hkp).at_ hlt
    obtain ⟨y, hy⟩ : ∃ y, y = p[k] := ⟨_, rfl⟩
    rw [<- hy] at hru
    have hy64 := H64.out y (by rw [hy]; exact List.getElem_mem hlt)
    have HN : Hid ((p.take k).map (fun r => bs (wordsF r [])) ++ [bs (wordsF y [])] = (p.take (k + 1)).map (fun r => bs (wordsF r []))) := hide (by rw [List.take_succ_eq_append_getElem hlt, List.map_append, hy]; rfl)
    have HM1 : Hid ((((p.take k).map (fun r => bs (wordsF r []))).length + [bs (wordsF y [])].length) * 16 <= 140737488355328) := hide (by simp at hpl ⊢; omega)
    have HM2 : Hid (((p.take k).map (fun r => bs (wordsF r []))).length + [bs (wordsF y [])].length <= maxLen) := hide (by simp [maxLen] at hpl ⊢; omega)
    have HW := hide (words_any y u1 [] wr hru hy64.1 hy64.2 (HT.out.kp (hk2.trans hkp)))
    clear hy ho hu hy64 hru
    go_wp2_with fail
    refine HW.out.mono ?_
    rintro e w5 ⟨rfl, hk5⟩
    have hkp5 := hkp.trans hk5
    have ho5 := hide (HO.out.below hk5)
    go_wp2_with (at_builtin; (with_reducible refine list_app (B := w2.heap.size) (l := (p.take k).map (fun r => bs (wordsF r []))) (m := [bs (wordsF y [])]) row_str u5 ?_ (.tmp 22) (.tmp 25) ?_ ?_ ?_ ?_ HM1.out HM2.out ?_ ?_); (with_reducible rfl); (with_reducible rfl); rfl; ((with_reducible apply OW.alloc); exact ho5.out); (show RD _ _ (.slice (some ⟨_, 0, none⟩) 1 1) _; (exact RD.auto)); (have := hkp5.size; simp; omega); intro v3 w3 ho3 hg3 hat3)
    go_roundw
    case rel => exact ⟨k + 1, by omega, by go_num, by rw [<- HN.out]; exact ho3, Kp.app hg3 hkp5.alloc hi⟩
    case measure => simp [intOf]; omega
   ·have hkl : Hid ((p.take k).map (fun r => bs (wordsF r [])) = (p.map (fun r => wordsF r [])).map bs) := hide (by rw [List.take_of_length_le (by omega), List.map_map]; rfl)
    have hrd := HO.out.rd
    rw [hkl.out] at hrd
    have hjn := join_lenN 22000021 [124] (p.map (fun r => wordsF r [])) (fun x hx => by
     obtain ⟨r, hr, rfl⟩ := List.mem_map.1 hx
     exact wordsF_len r (H64.out r hr).2 (H64.out r hr).1 [] (by simp))
    have hlp : (p.map (fun r => wordsF r [])).length = p.length := List.length_map _
    have hlp2 : ((p.map (fun r => wordsF r [])).map bs).length = p.length := by rw [List.length_map, List.length_map]
    have HJ := hide (join_any (p.map (fun r => wordsF r [])) [124] u5 wr hrd (by rw [hlp]; omega) (by rw [hlp] at hjn; simp only [List.length_singleton] at hjn; omega))
    obtain ⟨A5, c5, rfl, hc5, _⟩ := hrd.shape
    rw [hlp2] at HJ HO hi hrd
    have HRD := hide hrd
    clear ho hu hrd hjn hlp hlp2 hc5 hkl HO hi
    by_cases hp0 : p = []
    ·subst hp0
     go_wp2
     go_ret
     exact ⟨by rw [H1.out]; rfl, hk2.trans hkp⟩
    ·have hl0 : 0 < p.length := List.length_pos_iff.2 hp0
     have b0 : ((p.length : Int) == 0) = false := beq_eq_false_iff_ne.2 (by omega)
     have H2 : Hid (rowsS ks = .ok (Lib.join (p.map (fun r => wordsF r [])) [124])) := hide (by rw [H1.out, if_neg hp0])
     clear hp0
     go_wp2_with fail
     refine HJ.out.mono ?_
     rintro e w4 ⟨rfl, hk4⟩
     have hkp4 := (hk2.trans hkp).trans hk4
     go_wp2
     go_ret
     exact ⟨by rw [H2.out]; rfl, hkp4⟩
 ·have H1 : Hid (rowsS ks = .error er) := hide (by rw [rowsS, HP.out, if_neg he])
  go_enter Tryz.func38, Tryz.ntmps38
  go_wp2_with fail
  with_reducible refine HK.out.mono ?_
  rintro e w1 ⟨v1, rfl, ho1, hk1⟩
  have hr1 := hide ho1.rd
  have hk1 := Kp.of hk1
  obtain ⟨A1, c1, rfl, hc1, _⟩ := ho1.rd.shape
  clear ho1
  go_wp2_with fail
  with_reducible refine (skRows_any ks _ w1 hr1.out (HDB.out.kp hk1)).mono ?_
  rw [HP.out]
  rintro e w2 ⟨v2, rfl, hr2, hk2⟩
  have hk2 := hk1.trans hk2
  clear hr2
  go_wp2_with fail
  with_reducible refine (must_any er _).mono ?_
  rintro e w3 ⟨hm, rfl⟩
  rw [if_neg he, slipE] at hm
  subst hm
  go_wp2
  exact ⟨rfl, by unfold OrS; rw [H1.out]; exact ⟨rfl, hk2⟩⟩
end Go.Proofs.YtcljlnagpjilaaaGreatDoor
