/-
  hedgref.MapKeys: what it answers. Conditions: the list reads as l (RD).
  hedgref.MapKeys, ZipTree, IsZipped, ZipRight: what they answer. Conditions: the lists read as they are named (RD, RDS) and are not longer than a million.
  Plain laws: a list is zipped when it is read; Split and Merge answer the trees of the keys. No program. Conditions: none.
  A slice of slices that the call owns (OWS): appended to, read (RDS). Conditions: none.
  Rows of keys by their heights. No program. Conditions: none.
  hedgref.SameRows, RowsOf: what they answer. Conditions: the lists read as they are named (RD, RDS) and are not longer than a thousand.
  hedgref.KeysRight, slices.Index, slices.Contains at int: what they answer. Conditions: the list reads as l (RD).
  hedgref.Stops: what it answers. Conditions: the keys read as ints (RD), rise and are in their bounds; so is the key.
  Plain laws of rows and stops: a row's keys; a path rises, its rows go down, each stop is met in its highest row, the last one is the nearest key below. No program. Conditions: the keys rise and are in their bounds.
  The stops of a way, just which they are: those below the key with none between them and the key that is higher. No program. Conditions: none.
  TARJAN, LEVY, TIMMEL: those above a key's place in a zipped tree that are less are the stops of the way to it. No program. Conditions: none.
-/
import Derived.Test.YtfgbbmjnjppfnaaDoorG1
import Derived.Test.YtfgbbmjnjppfnaaDoorG12
import Derived.Test.YtfgbbmjnjppfnaaDoorG14
import Derived.Test.YtfgbbmjnjppfnaaDoorG11
import Derived.Test.YtfgbbmjnjppfnaaDoorG2

namespace Go.Proofs.YtfgbbmjnjppfnaaDoor
open Go.ChangeShapes Go.WideShapes Go.ChangeAt Go.RowKit
set_option linter.unusedVariables false
set_option linter.unusedSimpArgs false

def MkRel (l : List IP) (w : World) (ov iv : Value) (wr : World) : Prop := ∃ k : Nat, k ≤ l.length ∧ iv = .int .i64 k ∧ OW wr w.heap.size 3 eInt ov ((l.take k).map Prod.fst) ∧ Kp w wr
set_option maxRecDepth 100000 in
set_option maxHeartbeats 1000000 in
theorem mapKeys_any (l : List IP) (v : Value) (w : World) (hr : RD w ePair v l) (hn : l.length ≤ 1000000) : Calls Tryd.prog 19 #[v] w (RetOW 3 eInt (l.map Prod.fst) w) := by
  obtain ⟨A, c, rfl, hc, hm⟩ := hr.shape
  have HR := hide hr
  clear hr
  go_enter Tryd.func19, Tryd.ntmps19
  go_wp2
  go_loopw [3, 8] (MkRel l w) (fun _ i _ => l.length - (intOf i).toNat)
  case atStart => exact ⟨0, by omega, rfl, OW.nil, Kp.refl _⟩
  case round =>
    obtain ⟨k, hk, rfl, ho, hkp⟩ := hrel
    have hi := ho.hi
    have HO := hide ho
    obtain ⟨u, hu⟩ : ∃ u, u = u3 := ⟨_, rfl⟩
    by_cases hlt : k < l.length
    · obtain ⟨b, o, rfl, _, x0, x1⟩ := (HR.out.kp hkp).pair hlt
      obtain ⟨y, hy⟩ : ∃ y, y = l[k].1 := ⟨_, rfl⟩
      rw [← hy] at x0
      have HN : Hid ((l.take k).map Prod.fst ++ [y] = (l.take (k + 1)).map Prod.fst) := hide (by rw [List.take_succ_eq_append_getElem hlt, List.map_append, hy]; rfl)
      have HM1 : Hid ((((l.take k).map Prod.fst).length + [y].length) * 8 ≤ 140737488355328) := hide (by simp; omega)
      have HM2 : Hid (((l.take k).map Prod.fst).length + [y].length ≤ maxLen) := hide (by simp [maxLen]; omega)
      clear hy ho hu
      go_wp2_with (at_builtin; (with_reducible refine list_app (B := w.heap.size) (l := (l.take k).map Prod.fst) (m := [y]) row_int u3 ?_ (.tmp 12) (.tmp 15) ?_ ?_ ?_ ?_ HM1.out HM2.out ?_ ?_); (with_reducible rfl); (with_reducible rfl); rfl; ((with_reducible apply OW.alloc); (with_reducible apply OW.alloc); exact HO.out); (show RD _ _ (.slice (some ⟨_, 0, none⟩) 1 1) _; (focus ((repeat (first | (with_reducible assumption) | exact RD.new1 _ rfl | (refine RD.new1e _ ?_ rfl; simp; done) | (with_reducible apply RD.alloc) | (with_reducible apply RD.drew) | (with_reducible apply RD.drewN) | ((with_reducible apply RD.belowR); (with_reducible assumption)))); done))); (have := hkp.size; simp; omega); intro v3 w3 ho3 hg3 hat3)
      go_roundw
      case rel => exact ⟨k + 1, by omega, by go_num, by rw [← HN.out]; exact ho3, Kp.app hg3 hkp.alloc.alloc hi⟩
      case measure => simp [intOf]; omega
    · have hkl : Hid ((l.take k).map Prod.fst = l.map Prod.fst) := hide (by rw [List.take_of_length_le (by omega)])
      clear ho hu
      go_wp2
      go_ret
      exact ⟨_, rfl, by rw [← hkl.out]; exact HO.out, hkp.bel⟩

end Go.Proofs.YtfgbbmjnjppfnaaDoor
namespace Go.Proofs.YtfgbbmjnjppfnaaDoor
open Go.ChangeShapes Go.WideShapes Go.ChangeAt Go.RowKit
set_option linter.unusedVariables false
set_option linter.unusedSimpArgs false

def ZtRel (ks : List Int) (w : World) (ov iv : Value) (wr : World) : Prop := ∃ k : Nat, k ≤ ks.length ∧ iv = .int .i64 k ∧ OW wr w.heap.size 62 ePair ov ((ks.take k).map zk) ∧ Kp w wr
set_option maxRecDepth 100000 in
set_option maxHeartbeats 2000000 in
theorem zipTree_any (ks : List Int) (v : Value) (w : World) (hr : RD w eInt v ks) (hn : ks.length ≤ 1000000) : Calls Tryd.prog 16 #[v] w (RetTR (heapTree (ks.map zk)) w) := by
  obtain ⟨A, c, rfl, hc, hm⟩ := hr.shape
  have HR := hide hr
  have HHT := hide (fun v W h => heapTree_any 1000000 (ks.map zk) v W (by simpa using hn) (by omega) h)
  clear hr
  go_enter Tryd.func16, Tryd.ntmps16
  go_wp2
  go_loopw [3, 8] (ZtRel ks w) (fun _ i _ => ks.length - (intOf i).toNat)
  case atStart => exact ⟨0, by omega, rfl, OW.nil, Kp.refl _⟩
  case round =>
    obtain ⟨k, hk, rfl, ho, hkp⟩ := hrel
    have hi := ho.hi
    have HO := hide ho
    obtain ⟨A6, N6, c6, rfl⟩ := ho.rd.slice
    by_cases hlt : k < ks.length
    · obtain ⟨b, o, rfl, _, x0⟩ := (HR.out.kp hkp).int hlt
      obtain ⟨y, hy⟩ : ∃ y, y = ks[k] := ⟨_, rfl⟩
      obtain ⟨ht, hht⟩ : ∃ ht, ht = hgtF y := ⟨_, rfl⟩
      rw [← hy] at x0
      have HHG := hide (fun W => heightR_any y W)
      rw [← hht] at HHG
      obtain ⟨L, hL⟩ : ∃ L, L = (ks.take k).map zk := ⟨_, rfl⟩
      have HN : Hid (L ++ [((y, ht) : IP)] = (ks.take (k + 1)).map zk) := hide (by rw [List.take_succ_eq_append_getElem hlt, List.map_append, hL, hht, hy]; rfl)
      have hLl : L.length ≤ 1000000 := by rw [hL]; simp; omega
      rw [← hL] at HO
      have HM1 : Hid ((L.length + [((y, ht) : IP)].length) * 16 ≤ 140737488355328) := hide (by simp; omega)
      have HM2 : Hid (L.length + [((y, ht) : IP)].length ≤ maxLen) := hide (by simp [maxLen]; omega)
      have hoL : OW wr w.heap.size 62 ePair (.slice A6 N6 c6) L := HO.out
      have K11 := Kp.refl wr
      clear ho hy hht hL
      go_wp2_with fail
      with_reducible refine (HHG.out _).mono ?_
      rintro e w5 ⟨rfl, rfl⟩
      go_wp2_with (at_builtin; (with_reducible refine list_app (B := w.heap.size) (l := L) (m := [((y, ht) : IP)]) row_pair (.slice A6 N6 c6) ?_ (.tmp 12) (.tmp 17) ?_ ?_ ?_ ?_ HM1.out HM2.out ?_ ?_); (with_reducible rfl); (with_reducible rfl); rfl; (exact HO.out.alloc _); (show RD _ _ (.slice (some ⟨_, 0, none⟩) 1 1) _; (focus ((repeat (first | (with_reducible assumption) | exact RD.new1 _ rfl | (refine RD.new1e _ ?_ rfl; simp; done) | (with_reducible apply RD.alloc) | (with_reducible apply RD.drew) | (with_reducible apply RD.drewN) | ((with_reducible apply RD.belowR); (with_reducible assumption)))); done))); (have := hkp.size; simp; omega); intro v7 w7 ho7 hg7 hat7)
      go_roundw
      case rel => exact ⟨k + 1, by omega, by go_num, by rw [← HN.out]; exact ho7, Kp.app hg7 hkp.alloc hi⟩
      case measure => simp [intOf]; omega
    · have HT : Hid (RD wr ePair (.slice A6 N6 c6) (ks.map zk)) := hide (by have := ho.rd; rwa [List.take_of_length_le (by omega)] at this)
      clear ho
      go_wp2_with fail
      with_reducible refine (HHT.out _ _ HT.out).mono ?_
      rintro e w3 ⟨p3, rfl, ht3, hb3⟩
      have kk3 : Kp wr w3 := Kp.of hb3
      go_wp2
      go_ret
      exact ⟨_, rfl, ht3, (hkp.trans kk3).bel⟩

def zipOk (l : List IP) : Bool := decide (l = (heapTree ((l.map Prod.fst).map zk)).spots 0)
set_option maxRecDepth 100000 in
set_option maxHeartbeats 2000000 in
theorem isZipped_any (l : List IP) (v : Value) (w : World) (hr : RD w ePair v l) (hn : l.length ≤ 1000) : Calls Tryd.prog 39 #[v] w (Ret (.bool (zipOk l)) w) := by
  obtain ⟨A, c, rfl, hc, hm⟩ := hr.shape
  have HR := hide hr
  have HT := hide (fun v W h => zipTree_any (l.map Prod.fst) v W h (by simp; omega))
  have HS : Hid ((0 : Int) + (heapTree ((l.map Prod.fst).map zk)).size ≤ 1073741824) := hide (by rw [heapTree_size]; simp; omega)
  have HZ : Hid (zipOk l = decide (l = (heapTree ((l.map Prod.fst).map zk)).spots 0)) := hide rfl
  obtain ⟨H, hH⟩ : ∃ H, H = heapTree ((l.map Prod.fst).map zk) := ⟨_, rfl⟩
  rw [← hH] at HT HS HZ
  clear hr hH
  go_enter Tryd.func39, Tryd.ntmps39
  go_wp2_with fail
  with_reducible refine (spotKeys_any l _ _ HR.out (by omega)).mono ?_
  rintro e w1 ⟨v1, rfl, ho1, hb1⟩
  have kk1 : Kp w w1 := Kp.of hb1
  have HO1 := hide ho1.rd
  clear ho1 hb1
  go_wp2_with fail
  with_reducible refine (HT.out _ _ HO1.out).mono ?_
  rintro e w2 ⟨p2, rfl, ht2, hb2⟩
  have kk2 : Kp w1 w2 := Kp.of hb2
  have HT2 := hide ht2
  clear ht2 hb2
  go_wp2_with fail
  with_reducible refine (spots_any H p2 0 _ HT2.out (by omega) HS.out).mono ?_
  rintro e w3 ⟨v3, rfl, ho3, hb3⟩
  have kk3 : Kp w2 w3 := Kp.of hb3
  have HO3 := hide ho3.rd
  clear ho3 hb3
  go_wp2_with fail
  with_reducible refine (sameSpots_to l (H.spots 0) (zipOk l) _ _ _ (HR.out.kp (kk1.trans (kk2.trans kk3))) HO3.out (by rw [HZ.out])).mono ?_
  rintro e w4 ⟨rfl, hb4⟩
  have kk4 : Kp w3 w4 := Kp.of hb4
  go_wp2
  go_ret
  exact ⟨rfl, (kk1.trans (kk2.trans (kk3.trans kk4))).bel⟩

def errF : List (List IP) → Int
  | [] => 0
  | x :: l => if (parOf x).2 ≠ 0 then (parOf x).2 else errF l
def formF : List (List IP) → Int
  | [] => 0
  | x :: l => if zipOk x = true then formF l else 3
def zrR (ls : List (List IP)) : Int := if errF ls ≠ 0 then errF ls else formF ls
theorem errF_len : ∀ {ls : List (List IP)}, errF ls = 0 → ∀ x ∈ ls, x.length ≤ 200
  | [], _, _, h => by simp at h
  | y :: l, h, x, hx => by
    unfold errF at h
    split at h
    · next h1 => exact absurd h h1
    · next h1 =>
      rcases List.mem_cons.1 hx with rfl | hx
      · exact (parOf_len _ (by omega)).1
      · exact errF_len h x hx
theorem errF_drop (ls : List (List IP)) (k : Nat) (h : k < ls.length) : errF (ls.drop k) = if (parOf ls[k]).2 ≠ 0 then (parOf ls[k]).2 else errF (ls.drop (k + 1)) := by
  rw [List.drop_eq_getElem_cons h, errF]
theorem formF_drop (ls : List (List IP)) (k : Nat) (h : k < ls.length) : formF (ls.drop k) = if zipOk ls[k] = true then formF (ls.drop (k + 1)) else 3 := by
  rw [List.drop_eq_getElem_cons h, formF]
def ZeRel (ls : List (List IP)) (w : World) (iv : Value) (wr : World) : Prop := ∃ k : Nat, k ≤ ls.length ∧ iv = .int .i64 k ∧ errF (ls.drop k) = errF ls ∧ Kp w wr
def ZfRel (ls : List (List IP)) (w : World) (iv : Value) (wr : World) : Prop := ∃ k : Nat, k ≤ ls.length ∧ iv = .int .i64 k ∧ formF (ls.drop k) = formF ls ∧ Kp w wr
set_option maxRecDepth 100000 in
set_option maxHeartbeats 2000000 in
theorem zipRight_any (ls : List (List IP)) (v : Value) (w : World) (hr : RDS w ePair v ls) : Calls Tryd.prog 11 #[v] w (Ret (.int .i64 (zrR ls)) w) := by
  obtain ⟨A, c, rfl, hc, hm⟩ := hr.shape
  have HR := hide hr
  have HZ : Hid (zrR ls = if errF ls ≠ 0 then errF ls else formF ls) := hide rfl
  have HEL := hide (fun h x hx => errF_len (ls := ls) h x hx)
  clear hr
  go_enter Tryd.func11, Tryd.ntmps11
  go_wp2
  go_loopw [10] (ZeRel ls w) (fun i _ => ls.length - (intOf i).toNat)
  case atStart => exact ⟨0, by omega, rfl, rfl, Kp.refl _⟩
  case round =>
    obtain ⟨k, hk, rfl, he, hkp⟩ := hrel
    by_cases hlt : k < ls.length
    · obtain ⟨b, o, u, rfl, hb, cu, hu⟩ := (HR.out.kp hkp).at_ hlt
      have HE := hide he
      rw [errF_drop ls k hlt] at HE
      obtain ⟨x, hx⟩ : ∃ x, x = ls[k] := ⟨_, rfl⟩
      rw [← hx] at hu HE
      have HU := hide hu
      clear he hu hx
      obtain ⟨q, hq⟩ : ∃ q, q = (parOf x).2 := ⟨_, rfl⟩
      have HSP := hide (fun W h => spotsRight_any x u W h)
      rw [← hq] at HE HSP
      clear hq
      go_wp2_with fail
      with_reducible refine (HSP.out _ HU.out).mono ?_
      rintro e w1 ⟨rfl, hb1⟩
      have kk1 : Kp wr w1 := Kp.of hb1
      clear hb1
      by_cases hq0 : q = 0
      · subst hq0
        have HE2 := hide (HE.out)
        go_wp2
        go_roundw
        case rel => exact ⟨k + 1, by omega, by go_num, by rw [← HE2.out, if_neg (by simp)], hkp.trans kk1⟩
        case measure => simp [intOf]; omega
      · have b0 : (q != 0) = true := by simpa using hq0
        have HQ : Hid (zrR ls = q) := hide (by rw [HZ.out, ← HE.out, if_pos hq0, if_pos hq0])
        clear HE HZ
        go_wp2
        go_ret
        exact ⟨by rw [HQ.out]; rfl, (hkp.trans kk1).bel⟩
    · have he0 : errF ls = 0 := by rw [← he, List.drop_of_length_le (by omega)]; rfl
      have HF : Hid (zrR ls = formF ls) := hide (by rw [HZ.out, if_neg (by simp [he0])])
      have HL := hide (HEL.out he0)
      have HKP := hide hkp
      clear he he0 HZ
      go_wp2
      go_loopw [22] (ZfRel ls wr) (fun i _ => ls.length - (intOf i).toNat)
      case atStart => exact ⟨0, by omega, rfl, rfl, Kp.refl _⟩
      case round =>
        obtain ⟨j, hj, rfl, hf, hkq⟩ := hrel
        by_cases hltj : j < ls.length
        · obtain ⟨b, o, u, rfl, hb, cu, hu⟩ := (HR.out.kp (hkp.trans hkq)).at_ hltj
          have HE := hide hf
          rw [formF_drop ls j hltj] at HE
          have hxl := HL.out ls[j] (List.getElem_mem _)
          obtain ⟨x, hx⟩ : ∃ x, x = ls[j] := ⟨_, rfl⟩
          rw [← hx] at hu HE hxl
          have HU := hide hu
          clear hf hu hx
          have HIZ := hide (fun W h => isZipped_any x u W h (by omega))
          obtain ⟨q, hq⟩ : ∃ q, q = zipOk x := ⟨_, rfl⟩
          rw [← hq] at HE HIZ
          clear hq
          go_wp2_with fail
          with_reducible refine (HIZ.out _ HU.out).mono ?_
          rintro e w1 ⟨rfl, hb1⟩
          rename_i wq _ _ _
          have kk1 := Kp.of hb1
          clear hb1
          cases q with
          | true =>
            go_wp2
            go_roundw
            case rel => exact ⟨j + 1, by omega, by go_num, by rw [← HE.out, if_pos trivial], hkq.trans kk1⟩
            case measure => simp [intOf]; omega
          | false =>
            go_wp2
            go_ret
            exact ⟨by rw [HF.out, ← HE.out]; rfl, (hkp.trans (hkq.trans kk1)).bel⟩
        · have h0 : formF ls = 0 := by rw [← hf, List.drop_of_length_le (by omega)]; rfl
          have HF0 := hide h0
          clear h0 hf
          go_wp2
          go_ret
          exact ⟨by rw [HF.out, HF0.out]; rfl, (hkp.trans hkq).bel⟩
end Go.Proofs.YtfgbbmjnjppfnaaDoor
namespace Go.Proofs.YtfgbbmjnjppfnaaDoor
open Go.ChangeShapes Go.WideShapes Go.ChangeAt Go.RowKit
set_option linter.unusedVariables false
set_option linter.unusedSimpArgs false

theorem nd_len : ∀ t : MT IP, (nd t).length = t.size
  | .nil => rfl
  | .node a l r => by simp [nd, MT.size, nd_len l, nd_len r]; omega
theorem ZI.size {T : MT IP} {ks : List Int} (h : ZI T ks) : T.size = ks.length := by rw [← nd_len, h.nd_, List.length_map]
theorem ZI.heap {T : MT IP} {ks : List Int} (h : ZI T ks) : heapTree (ks.map zk) = skZ T := by
  rw [← h.nd_]; exact heapTree_nd _ h.hp (by rw [h.nd_]; exact zk_up h.up)
theorem ZI.spots {T : MT IP} {ks : List Int} (h : ZI T ks) : (heapTree (ks.map zk)).spots 0 = T.spotsBy Prod.fst 0 := by rw [h.heap, skZ_spots]
theorem ksIns_last {ks : List Int} {k : Int} (h : ∀ x ∈ ks, x < k) : ksIns ks k = ks ++ [k] := by
  rw [ksIns, filter_all (fun x hx => by simpa using h x hx), filter_no (fun x hx => by have := h x hx; simp; omega), List.append_nil]
theorem zi_ex (ks : List Int) (h : Up ks) : ∃ T, ZI T ks := by
  have : ∀ n, n ≤ ks.length → ∃ T, ZI T (ks.take n) := by
    intro n
    induction n with
    | zero => intro _; exact ⟨.nil, by simp [nd], trivial, by simp [Up]⟩
    | succ n ih =>
      intro hn
      obtain ⟨T, hT⟩ := ih (by omega)
      have h2 := hT.put ks[n]
      rw [ksIns_last, ← List.take_succ_eq_append_getElem (by omega)] at h2
      · exact ⟨_, h2⟩
      · intro x hx
        obtain ⟨i, hi, rfl⟩ := List.mem_iff_getElem.1 hx
        rw [List.getElem_take]
        simp at hi
        exact (List.pairwise_iff_getElem.1 h) i n (by omega) (by omega) (by omega)
  obtain ⟨T, hT⟩ := this ks.length (Nat.le_refl _)
  rw [List.take_length] at hT
  exact ⟨T, hT⟩
theorem par_up {l : List IP} (h0 : (parOf l).2 = 0) : Up (l.map Prod.fst) ∧ (∀ k ∈ l.map Prod.fst, 0 ≤ k ∧ k ≤ 1000000) ∧ l.length ≤ 200 := by
  obtain ⟨hlen, hmr, _⟩ := parOf_len l h0
  refine ⟨?_, fun k hk => ?_, hlen⟩
  · rw [Up, List.pairwise_iff_getElem]
    intro i j hi hj hij
    simp only [List.length_map] at hi hj
    simp only [List.getElem_map]
    exact mapRight_rise l hmr i j hi hj hij
  · obtain ⟨x, hx, rfl⟩ := List.mem_map.1 hk
    exact mapRight_in l hmr x hx
theorem readZ_err (l : List IP) : (readZ l).2 = if (parOf l).2 ≠ 0 then (parOf l).2 else if zipOk l = true then 0 else 3 := by
  by_cases h0 : (parOf l).2 = 0
  · rw [if_neg (by simp [h0])]
    obtain ⟨hup, hin, hlen⟩ := par_up h0
    by_cases hz : zipOk l = true
    · rw [if_pos hz]
      obtain ⟨T, hT⟩ := zi_ex _ hup
      have hs := of_decide_eq_true hz
      rw [hT.spots] at hs
      obtain ⟨_, B, hB, _⟩ := readZ_spots hT (by rw [hT.size]; simpa using hlen) hin
      rw [← hs] at hB
      rw [hB]
    · rw [if_neg hz]
      have : (readZ l).2 ≠ 0 := fun h => by
        obtain ⟨hT, hs, _⟩ := readZ_facts h
        apply hz
        rw [zipOk, decide_eq_true_eq, hT.spots, hs]
      unfold readZ at this ⊢
      rw [if_neg (by simp [h0])] at this ⊢
      split
      · next hk =>
        rw [if_pos hk] at this
        split at this
        · exact absurd rfl this
        · exact absurd rfl this
      · rfl
  · rw [if_pos h0, readZ, if_pos h0]
theorem zrR_one (l : List IP) : zrR [l] = (readZ l).2 := by
  rw [readZ_err, zrR, errF, errF, formF, formF]
  by_cases h0 : (parOf l).2 = 0
  · simp [h0]
  · simp [h0]
def zrTwo (a b : List IP) : Int := if (parOf a).2 ≠ 0 then (parOf a).2 else if (parOf b).2 ≠ 0 then (parOf b).2 else if (readZ a).2 ≠ 0 ∨ (readZ b).2 ≠ 0 then 3 else 0
theorem zrR_two (a b : List IP) : zrR [a, b] = zrTwo a b := by
  rw [zrTwo, readZ_err, readZ_err, zrR, errF, errF, errF, formF, formF, formF]
  by_cases h0 : (parOf a).2 = 0 <;> by_cases h1 : (parOf b).2 = 0 <;> by_cases h2 : zipOk a = true <;> by_cases h3 : zipOk b = true <;> simp [h0, h1, h2, h3]
/-- What Split says, by the trees of the keys. -/
theorem split_says (l : List IP) (key : Int) : splitZ l key = if zrR [l] ≠ 0 then ([], [], zrR [l]) else if btw key 0 1000000 = false then ([], [], 1) else
    ((heapTree (((l.map Prod.fst).filter (fun x => decide (x < key))).map zk)).spots 0, (heapTree (((l.map Prod.fst).filter (fun x => !decide (x < key))).map zk)).spots 0, 0) := by
  rw [zrR_one]
  by_cases hr : (readZ l).2 = 0
  · rw [if_neg (by simp [hr])]
    by_cases hk : key < 0 ∨ 1000000 < key
    · rw [splitZ, if_neg (by simp [hr]), if_pos hk, if_pos (by simp [btw]; omega)]
    · rw [splitZ, if_neg (by simp [hr]), if_neg hk, if_neg (by simp [btw]; omega)]
      obtain ⟨z, hsp, hlen, hsz, hin⟩ := readZ_facts hr
      obtain ⟨M, hM⟩ : ∃ M, M = mapZ (readZ l).1 := ⟨_, rfl⟩
      rw [← hM] at z hsp hsz ⊢
      have hu : UpN (nd M) := by rw [z.nd_]; exact zk_up z.up
      obtain ⟨e1, e2⟩ := nd_unz M key hu
      obtain ⟨i1, i2⟩ := hp_unz M key hu z.hp
      have hn1 : nd (unz M key).1 = ((l.map Prod.fst).filter (fun x => decide (x < key))).map zk := by rw [e1, z.nd_, List.filter_map]; simp [Function.comp_def, zk] <;> rfl
      have hn2 : nd (unz M key).2 = ((l.map Prod.fst).filter (fun x => !decide (x < key))).map zk := by rw [e2, z.nd_, List.filter_map]; simp [Function.comp_def, zk] <;> rfl
      have z1 : ZI (unz M key).1 _ := ⟨hn1, i1, z.up.filter _⟩
      have z2 : ZI (unz M key).2 _ := ⟨hn2, i2, z.up.filter _⟩
      rw [z1.spots, z2.spots]
  · rw [if_pos hr, splitZ, if_pos hr]
/-- Is there a key in a list that is not more than the one ahead of it? -/
def notUp (l : List Int) (n : Nat) : Bool := (List.range n).any fun j => decide (0 < j) && decide (l.getD j 0 ≤ l.getD (j - 1) 0)
theorem notUp_succ (l : List Int) (n : Nat) : notUp l (n + 1) = (notUp l n || (decide (0 < n) && decide (l.getD n 0 ≤ l.getD (n - 1) 0))) := by
  rw [notUp, List.range_succ, List.any_append]; simp [notUp]
theorem notUp_iff (l : List Int) : notUp l l.length = false ↔ Up l := by
  constructor
  · intro h
    rw [notUp, List.any_eq_false] at h
    rw [Up, List.pairwise_iff_getElem]
    intro i j
    induction j with
    | zero => intro _ _ h; omega
    | succ j ih =>
      intro hi hj hij
      have h1 := h (j + 1) (by simpa using hj)
      simp [List.getD_eq_getElem?_getD, List.getElem?_eq_getElem hj, List.getElem?_eq_getElem (show j < l.length by omega)] at h1
      by_cases e : i = j
      · subst e; exact h1
      · have := ih hi (by omega) (by omega)
        omega
  · intro h
    rw [notUp, List.any_eq_false]
    intro j hj
    have hj : j < l.length := by simpa using hj
    rw [Up, List.pairwise_iff_getElem] at h
    by_cases h0 : 0 < j
    · have := h (j - 1) j (by omega) hj (by omega)
      simp [List.getD_eq_getElem?_getD, List.getElem?_eq_getElem hj, List.getElem?_eq_getElem (show j - 1 < l.length by omega)]
      omega
    · simp [h0]
theorem bad_up {a b : List IP} (ha : Up (a.map Prod.fst)) (hb : Up (b.map Prod.fst)) : badZ a b = notUp ((a ++ b).map Prod.fst) ((a ++ b).map Prod.fst).length := by
  have key : badZ a b = false ↔ Up ((a ++ b).map Prod.fst) := by
    rw [List.map_append, Up, List.pairwise_append]
    rcases List.eq_nil_or_concat a with rfl | ⟨a', x, rfl⟩
    · simp [badZ]; exact hb
    · cases b with
      | nil => simp [badZ]; simpa [Up] using ha
      | cons y b' =>
        have hbz : badZ (a'.concat x) (y :: b') = decide (y.1 ≤ x.1) := by simp [badZ]
        rw [hbz, decide_eq_false_iff_not]
        constructor
        · intro h
          refine ⟨ha, hb, fun p hp q hq => ?_⟩
          rw [List.concat_eq_append, List.map_append, Up, List.pairwise_append] at ha
          rw [List.map_cons, Up, List.pairwise_cons] at hb
          rw [List.concat_eq_append, List.map_append] at hp
          have h1 : p ≤ x.1 := by
            rcases List.mem_append.1 hp with hp | hp
            · exact Int.le_of_lt (ha.2.2 p hp x.1 (by simp))
            · simp at hp; omega
          have h2 : y.1 ≤ q := by
            rcases List.mem_cons.1 hq with rfl | hq
            · exact Int.le_refl _
            · exact Int.le_of_lt (hb.1 q hq)
          omega
        · rintro ⟨_, _, h⟩
          have := h x.1 (by simp) y.1 (by simp)
          omega
  rw [← notUp_iff] at key
  cases h1 : badZ a b <;> cases h2 : notUp ((a ++ b).map Prod.fst) ((a ++ b).map Prod.fst).length <;> simp_all
def msay (a b : List IP) : Int := if zrR [a, b] ≠ 0 then zrR [a, b] else if notUp ((a ++ b).map Prod.fst) ((a ++ b).map Prod.fst).length = true then 3 else if 200 < a.length + b.length then 2 else 0
theorem merge_says (a b : List IP) : mergeZ a b = if msay a b ≠ 0 then ([], msay a b) else ((heapTree (((a ++ b).map Prod.fst).map zk)).spots 0, 0) := by
  rw [msay, zrR_two, zrTwo, mergeZ]
  by_cases h0 : (parOf a).2 = 0
  · by_cases h1 : (parOf b).2 = 0
    · simp only [h0, h1, ne_eq, not_true_eq_false, if_false]
      by_cases h2 : (readZ a).2 = 0
      · by_cases h3 : (readZ b).2 = 0
        · obtain ⟨ua, _, _⟩ := par_up h0
          obtain ⟨ub, _, _⟩ := par_up h1
          simp only [h2, h3, not_true_eq_false, false_or, if_false, ne_eq]
          rw [← bad_up ua ub]
          by_cases h4 : badZ a b = true
          · simp [h4]
          · by_cases h5 : 200 < a.length + b.length
            · simp [h4, h5]
            · simp only [h4, h5, if_false, not_true_eq_false]
              obtain ⟨z, _⟩ := readZ_facts h2
              obtain ⟨y, _⟩ := readZ_facts h3
              have hup : Up ((a ++ b).map Prod.fst) := by rw [← notUp_iff, ← bad_up ua ub]; simpa using h4
              obtain ⟨M, hM⟩ : ∃ M, M = mapZ (readZ a).1 := ⟨_, rfl⟩
              obtain ⟨O, hO⟩ : ∃ O, O = mapZ (readZ b).1 := ⟨_, rfl⟩
              rw [← hM] at z ⊢
              rw [← hO] at y ⊢
              have hc : ∀ x ∈ nd M, ∀ y ∈ nd O, x.1 < y.1 := by
                rw [z.nd_, y.nd_]
                rw [List.map_append, Up, List.pairwise_append] at hup
                intro p hp q hq
                obtain ⟨p', hp', rfl⟩ := List.mem_map.1 hp
                obtain ⟨q', hq', rfl⟩ := List.mem_map.1 hq
                exact hup.2.2 p' hp' q' hq'
              have zz : ZI (zipM M O) ((a ++ b).map Prod.fst) := ⟨by rw [nd_zip _ _ _ (Nat.le_refl _), z.nd_, y.nd_, ← List.map_append, ← List.map_append], hp_zip _ _ _ (Nat.le_refl _) z.hp y.hp hc, hup⟩
              rw [zz.spots]
              simp
        · simp [h3]
      · simp [h2]
    · simp [h0, h1]
  · simp [h0]
/-- What Run leaves is the tree of the map's keys. -/
theorem run_says (ops : List O3) : (heapTree (((runL ops).1.map Prod.fst).map zk)).spots 0 = (zrT (opsA ops)).spotsBy Prod.fst 0 := (zip_inv_all ops).spots
end Go.Proofs.YtfgbbmjnjppfnaaDoor
namespace Go.Proofs.YtfgbbmjnjppfnaaDoor
open Go.ChangeShapes Go.WideShapes Go.ChangeAt Go.RowKit
set_option linter.unusedVariables false
set_option linter.unusedSimpArgs false

abbrev V1 := {v : Value // v.oneCell' = true}
theorem OW.apart {α β : Type} {w : World} {B B' : Nat} {e e' : TypeId} {E : Enc α} {E' : Enc β} {v v' : Value} {l : List α} {l' : List β} (h : OW w B e E v l) (h' : OW w B' e' E' v' l') (hn : e ≠ e') : v.ownBlock = none ∨ v.ownBlock ≠ v'.ownBlock := by
  rcases h.2 with ⟨rfl, _⟩ | ⟨g, cap, cur, rfl, hg, hh, r⟩
  · exact .inl rfl
  · rcases h'.2 with ⟨rfl, _⟩ | ⟨g', cap', cur', rfl, hg', hh', r'⟩
    · right; simp [Value.ownBlock]
    · right
      intro e1
      injection e1 with e1
      subst e1
      rw [hh] at hh'
      injection hh' with hh'
      injection hh' with _ e2
      exact hn e2
theorem slice_one (A : Option Addr) (n c : Nat) : (Value.slice A n c).oneCell' = true := rfl
def OWS {α : Type} (w : World) (B : Nat) (st e : TypeId) (E : Enc α) (v : Value) (ls : List (List α)) : Prop :=
  ∃ vs : List V1, OW w B st eVal v vs ∧ vs.length = ls.length ∧ ∀ k (h : k < vs.length) (h2 : k < ls.length), OW w B e E vs[k].1 ls[k]
section
variable {α : Type} {w w' : World} {B : Nat} {st e : TypeId} {E : Enc α} {v : Value} {ls : List (List α)}
theorem OWS.nil : OWS w B st e E (.slice none 0 0) ([] : List (List α)) := ⟨[], OW.nil, rfl, fun k h => by simp at h⟩
theorem OWS.kp (h : OWS w B st e E v ls) (hk : Kp w w') : OWS w' B st e E v ls := by
  obtain ⟨vs, h1, h2, h3⟩ := h
  exact ⟨vs, h1.kp hk, h2, fun k a b => (h3 k a b).kp hk⟩
theorem OWS.more {B' : Nat} (h : OWS w B st e E v ls) (hB : B' ≤ B) : OWS w B' st e E v ls := by
  obtain ⟨vs, h1, h2, h3⟩ := h
  exact ⟨vs, h1.more hB, h2, fun k a b => (h3 k a b).more hB⟩
theorem OWS.rds (h : OWS w B st e E v ls) (hn : ls.length ≤ maxLen) : RDS w E v ls := by
  obtain ⟨vs, h1, h2, h3⟩ := h
  obtain ⟨A, c, e, a1, a2, a3, a4⟩ := h1.rd
  subst e
  refine ⟨A, c, by rw [h2], by omega, a2, fun h0 => ?_⟩
  obtain ⟨b, o, rfl, hb, hc⟩ := a4 (by omega)
  refine ⟨b, o, rfl, hb, fun k hk => ?_⟩
  have hk2 : k < vs.length := by omega
  refine ⟨vs[k].1, ?_, (h3 k hk2 hk).rd⟩
  have := hc k hk2 0 (by decide)
  simpa [eVal] using this
theorem OWS.len (h : OWS w B st e E v ls) : ∃ vs : List V1, OW w B st eVal v vs ∧ vs.length = ls.length := by
  obtain ⟨vs, h1, h2, _⟩ := h
  exact ⟨vs, h1, h2⟩
/-- One slice more. -/
theorem OWS.app {v' : Value} {u : V1} {l : List α} {vs : List V1} (h1 : OW w B st eVal v vs) (h2 : vs.length = ls.length) (h3 : ∀ k (h : k < vs.length) (h2 : k < ls.length), OW w B e E vs[k].1 ls[k]) (hn : e ≠ st) (hl : OW w B e E u.1 l)
    (ho : OW w' B st eVal v' (vs ++ [u])) (hg : w.grownBy w' v.ownBlock) : OWS w' B st e E v' (ls ++ [l]) := by
  refine ⟨vs ++ [u], ho, by simp [h2], fun k a b => ?_⟩
  by_cases e1 : k < vs.length
  · rw [List.getElem_append_left e1, List.getElem_append_left (by omega)]
    exact (h3 k e1 (by omega)).kept hg ((h3 k e1 (by omega)).apart h1 hn)
  · have hk : k = vs.length := by simp at a; omega
    subst hk
    have e2 : (ls ++ [l])[vs.length] = l := by rw [List.getElem_append_right (by omega)]; simp [h2]
    have e3 : (vs ++ [u])[vs.length] = u := by simp
    rw [e2, e3]
    exact hl.kept hg (hl.apart h1 hn)
end
theorem info_ints : (Tryd.prog.info? 30).map (fun i => (i.zero, i.size, i.bytes)) = some (some (.slice none 0 0), 1, 24) := by kernel_rfl
theorem row_ints : Row Tryd.prog 169 30 eVal 24 := row_of info_ints Tryd.underlying169 rfl rfl (by decide)
end Go.Proofs.YtfgbbmjnjppfnaaDoor
namespace Go.Proofs.YtfgbbmjnjppfnaaDoor
open Go.ChangeShapes Go.WideShapes Go.ChangeAt Go.RowKit
set_option linter.unusedVariables false
set_option linter.unusedSimpArgs false

section
variable (H : Int → Int) (ks : List Int)
/-- A row of keys; all rows that have a key. -/
def rowH (r : Nat) : List Int := ks.filter fun k => decide ((r : Int) < H k)
def rowsH (n : Nat) : List (List Int) := ((List.range n).map (rowH H ks)).filter fun l => !l.isEmpty
theorem rowsH_succ (n : Nat) : rowsH H ks (n + 1) = rowsH H ks n ++ if (rowH H ks n).isEmpty then [] else [rowH H ks n] := by
  unfold rowsH
  rw [List.range_succ, List.map_append, List.filter_append]
  cases h : (rowH H ks n).isEmpty <;> simp [List.filter_cons, h]
theorem rowsH_len (n : Nat) : (rowsH H ks n).length ≤ n := by
  unfold rowsH
  refine Nat.le_trans (List.length_filter_le _ _) ?_
  rw [List.length_map, List.length_range]; omega
theorem rowH_len (r : Nat) : (rowH H ks r).length ≤ ks.length := List.length_filter_le _ _
theorem rowH_nest {r q : Nat} (h : rowH H ks r = []) (hq : r ≤ q) : rowH H ks q = [] := by
  unfold rowH at h ⊢
  rw [List.filter_eq_nil_iff] at h ⊢
  intro k hk hc
  refine h k hk ?_
  simp only [decide_eq_true_eq] at hc ⊢
  omega
theorem rowH_top {n : Nat} (h : ∀ k, H k ≤ n) : rowH H ks n = [] := by
  unfold rowH
  rw [List.filter_eq_nil_iff]
  intro k _ hc
  simp only [decide_eq_true_eq] at hc
  have := h k
  omega
theorem rowsH_range : ∀ n, ∃ R, R ≤ n ∧ rowsH H ks n = (List.range R).map (rowH H ks) ∧ (R < n → rowH H ks R = []) ∧ ∀ q, q < R → rowH H ks q ≠ []
  | 0 => ⟨0, Nat.le_refl _, rfl, fun h => by omega, fun q h => by omega⟩
  | n + 1 => by
    obtain ⟨R, h1, h2, h3, h4⟩ := rowsH_range n
    by_cases e : rowH H ks n = []
    · refine ⟨R, by omega, by rw [rowsH_succ, e, h2]; simp, fun h => ?_, h4⟩
      by_cases e2 : R = n
      · rw [e2]; exact e
      · exact h3 (by omega)
    · have hR : R = n := by
        by_cases e2 : R = n
        · exact e2
        · exact absurd (rowH_nest H ks (h3 (by omega)) h1) e
      subst hR
      refine ⟨R + 1, by omega, ?_, fun h => by omega, fun q hq => ?_⟩
      · rw [rowsH_succ, h2, List.range_succ, List.map_append]
        have : (rowH H ks R).isEmpty = false := by
          cases h5 : rowH H ks R with
          | nil => exact absurd h5 e
          | cons a l => rfl
        rw [this]; simp
      · by_cases e2 : q = R
        · rw [e2]; exact e
        · exact h4 q (by omega)
theorem rowsH_is {n r : Nat} (hn : ∀ k, H k ≤ n) (h1 : rowH H ks r = []) (h2 : ∀ q, q < r → rowH H ks q ≠ []) : rowsH H ks n = (List.range r).map (rowH H ks) := by
  obtain ⟨R, g1, g2, g3, g4⟩ := rowsH_range H ks n
  have e : R = r := by
    rcases Nat.lt_trichotomy R r with h | h | h
    · refine absurd ?_ (h2 R h)
      by_cases e : R < n
      · exact g3 e
      · rw [show R = n by omega]; exact rowH_top H ks hn
    · exact h
    · exact absurd h1 (g4 r h)
  rw [g2, e]
theorem rowH_take (r k : Nat) (h : k < ks.length) : rowH H (ks.take (k + 1)) r = rowH H (ks.take k) r ++ if (r : Int) < H ks[k] then [ks[k]] else [] := by
  unfold rowH
  rw [List.take_succ_eq_append_getElem h, List.filter_append]
  congr 1
  by_cases e : (r : Int) < H ks[k] <;> simp [e]
end
def rowK (ks : List Int) (r : Nat) : List Int := rowH hgtF ks r
def rowsN (ks : List Int) (n : Nat) : List (List Int) := rowsH hgtF ks n
theorem rowsN_succ (ks : List Int) (n : Nat) : rowsN ks (n + 1) = rowsN ks n ++ if (rowK ks n).isEmpty then [] else [rowK ks n] := rowsH_succ hgtF ks n
theorem rowsN_len (ks : List Int) (n : Nat) : (rowsN ks n).length ≤ n := rowsH_len hgtF ks n
theorem rowK_len (ks : List Int) (r : Nat) : (rowK ks r).length ≤ ks.length := rowH_len hgtF ks r
theorem hgt_le (k : Int) : hgtF k ≤ (12 : Nat) := (hgtF_in k).2
theorem rowK_12 (ks : List Int) : rowK ks 12 = [] := rowH_top hgtF ks hgt_le
theorem rowsN_is {ks : List Int} {r : Nat} (h1 : rowK ks r = []) (h2 : ∀ q, q < r → rowK ks q ≠ []) : rowsN ks 12 = (List.range r).map (rowK ks) := rowsH_is hgtF ks hgt_le h1 h2
theorem rowsN_range (ks : List Int) : ∃ R, R ≤ 12 ∧ rowsN ks 12 = (List.range R).map (rowK ks) ∧ (∀ q, R ≤ q → rowK ks q = []) ∧ ∀ q, q < R → rowK ks q ≠ [] := by
  obtain ⟨R, h1, h2, h3, h4⟩ := rowsH_range hgtF ks 12
  have h5 : rowK ks R = [] := by
    by_cases e : R < 12
    · exact h3 e
    · rw [show R = 12 by omega]; exact rowK_12 ks
  exact ⟨R, h1, h2, fun q hq => rowH_nest hgtF ks h5 hq, h4⟩
theorem rowK_take (ks : List Int) (r k : Nat) (h : k < ks.length) : rowK (ks.take (k + 1)) r = rowK (ks.take k) r ++ if (r : Int) < hgtF ks[k] then [ks[k]] else [] := rowH_take hgtF ks r k h
theorem rowK_nil (r : Nat) : rowK [] r = [] := rfl
end Go.Proofs.YtfgbbmjnjppfnaaDoor
namespace Go.Proofs.YtfgbbmjnjppfnaaDoor
open Go.ChangeShapes Go.WideShapes Go.ChangeAt Go.RowKit
set_option linter.unusedVariables false
set_option linter.unusedSimpArgs false

theorem eqLL {α : Type} {l m : List (List α)} (hl : l.length = m.length) (h : ∀ j (h1 : j < l.length) (h2 : j < m.length), l[j] = m[j]) : l = m := List.ext_getElem hl h
def SmrRel (l m : List (List Int)) (w : World) (i : Value) (wr : World) : Prop := ∃ k : Nat, k ≤ l.length ∧ i = .int .i64 (k : Int) ∧ (∀ j (h1 : j < l.length) (h2 : j < m.length), j < k → l[j] = m[j]) ∧ Kp w wr
end Go.Proofs.YtfgbbmjnjppfnaaDoor
namespace Go.Proofs.YtfgbbmjnjppfnaaDoor
open Go.ChangeShapes Go.WideShapes Go.ChangeAt Go.RowKit
set_option linter.unusedVariables false
set_option linter.unusedSimpArgs false

def krF : Int → List Int → Int
  | _, [] => 0
  | la, x :: t => if la + 1 ≤ x ∧ x ≤ 1000000 then krF x t else 3
def krL (l : List Int) : Int := if l.length > 200 then 2 else krF (-1) l
def KrRel (l : List Int) (w : World) (lv iv : Value) (wr : World) : Prop := ∃ (k : Nat) (la : Int), k ≤ l.length ∧ iv = .int .i64 k ∧ lv = .int .i64 la ∧ -1 ≤ la ∧ la ≤ 1000000 ∧ krF la (l.drop k) = krF (-1) l ∧ w = wr
set_option maxRecDepth 100000 in
set_option maxHeartbeats 2000000 in
theorem keysRight_any (l : List Int) (v : Value) (w : World) (hr : RD w eInt v l) : Calls Tryd.prog 24 #[v] w (Ret (.int .i64 (krL l)) w) := by
  obtain ⟨A, c, rfl, hc, hm⟩ := hr.shape
  by_cases hlen : l.length > 200
  · have H1 : Hid (krL l = 2) := hide (by rw [krL, if_pos hlen])
    clear hr
    go_enter Tryd.func24, Tryd.ntmps24
    go_wp2
    go_ret
    exact ⟨by rw [H1.out]; rfl, Below.refl _ _⟩
  · have H0 : Hid (krL l = krF (-1) l) := hide (by rw [krL, if_neg hlen])
    have HR := hide hr
    clear hr
    go_enter Tryd.func24, Tryd.ntmps24
    go_wp2
    go_loopw [3, 11] (KrRel l w) (fun _ i _ => l.length - (intOf i).toNat)
    case atStart => exact ⟨0, -1, by omega, rfl, rfl, by omega, by omega, rfl, rfl⟩
    case round =>
      obtain ⟨k, la, hk, rfl, rfl, g1, g2, he, rfl⟩ := hrel
      by_cases hlt : k < l.length
      · obtain ⟨b, o, rfl, _, c0⟩ := HR.out.int hlt
        rw [List.drop_eq_getElem_cons hlt, krF] at he
        obtain ⟨y, hy⟩ : ∃ y, y = l[k] := ⟨_, rfl⟩
        rw [← hy] at c0 he
        have hwl : IntKind.i64.wrap (la + 1) = la + 1 := IntWalk.i64_in _ (by omega)
        by_cases hb : la + 1 ≤ y ∧ y ≤ 1000000
        · rw [if_pos hb] at he
          have HE := hide he
          have HBT := hide ((btw_iff y (la + 1) 1000000).2 hb)
          have hy1 : -1 ≤ y := by omega
          have hy2 : y ≤ 1000000 := hb.2
          clear hb he hy
          go_wp2_with (go_at_call 12; refine (between_to _ _ _ true _ HBT.out).mono ?_; rintro e w' ⟨rfl, rfl⟩)
          go_roundw
          case rel => exact ⟨k + 1, y, by omega, by go_num, rfl, hy1, hy2, HE.out, rfl⟩
          case measure => simp [intOf]; omega
        · rw [if_neg hb] at he
          have H1 : Hid (krL l = 3) := hide (by rw [H0.out, ← he])
          have HBT := hide ((btw_f_iff y (la + 1) 1000000).2 hb)
          clear hb he hy
          go_wp2_with (go_at_call 12; refine (between_to _ _ _ false _ HBT.out).mono ?_; rintro e w' ⟨rfl, rfl⟩)
          go_ret
          exact ⟨by rw [H1.out]; rfl, Below.refl _ _⟩
      · rw [List.drop_eq_nil_of_le (by omega)] at he
        have H1 : Hid (krL l = 0) := hide (by rw [H0.out, ← he]; rfl)
        clear he
        go_wp2
        go_ret
        exact ⟨by rw [H1.out]; rfl, Below.refl _ _⟩
def IxRel (l : List Int) (y : Int) (w : World) (iv : Value) (wr : World) : Prop := ∃ k : Nat, k ≤ l.length ∧ iv = .int .i64 k ∧ y ∉ l.take k ∧ w = wr
set_option maxRecDepth 100000 in
set_option maxHeartbeats 1000000 in
theorem index_any (l : List Int) (y : Int) (v : Value) (w : World) (hr : RD w eInt v l) : Calls Tryd.prog 47 #[v, .int .i64 y] w fun e w' => ∃ i : Int, e = .returned (.int .i64 i) ∧ (0 ≤ i ↔ y ∈ l) ∧ w = w' := by
  obtain ⟨A, c, rfl, hc, hm⟩ := hr.shape
  have HR := hide hr
  clear hr
  go_enter Tryd.func47, Tryd.ntmps47
  go_wp2
  go_loopw [8] (IxRel l y w) (fun i _ => l.length - (intOf i).toNat)
  case atStart => exact ⟨0, by omega, rfl, by simp, rfl⟩
  case round =>
    obtain ⟨k, hk, rfl, hno, rfl⟩ := hrel
    have HNO := hide hno
    clear hno
    by_cases hlt : k < l.length
    · obtain ⟨b, o, rfl, _, c0⟩ := HR.out.int hlt
      have HT : Hid (l.take (k + 1) = l.take k ++ [l[k]]) := hide (List.take_succ_eq_append_getElem hlt)
      have HMM : Hid (l[k] ∈ l) := hide (List.getElem_mem hlt)
      obtain ⟨x, hx⟩ : ∃ x, x = l[k] := ⟨_, rfl⟩
      rw [← hx] at c0 HT HMM
      clear hx
      by_cases hxy : y = x
      · have b0 : (y == x) = true := by simp [hxy]
        have HXY := hide hxy
        clear hxy
        go_wp2
        go_ret
        exact ⟨(k : Int), rfl, ⟨fun _ => by rw [HXY.out]; exact HMM.out, fun _ => by omega⟩, rfl⟩
      · have b0 : (y == x) = false := by simpa using hxy
        have HXY := hide hxy
        clear hxy
        go_wp2
        go_roundw
        case rel => exact ⟨k + 1, by omega, by go_num, by rw [HT.out]; simp only [List.mem_append, List.mem_singleton]; rintro (h | h); exact HNO.out h; exact HXY.out h, rfl⟩
        case measure => simp [intOf]; omega
    · have HN : Hid (y ∉ l) := hide (by have := HNO.out; rwa [List.take_of_length_le (by omega)] at this)
      go_wp2
      go_ret
      exact ⟨-1, rfl, ⟨fun h => by omega, fun h => absurd h HN.out⟩, rfl⟩
set_option maxRecDepth 100000 in
set_option maxHeartbeats 1000000 in
theorem contains_any (l : List Int) (y : Int) (v : Value) (w : World) (hr : RD w eInt v l) : Calls Tryd.prog 25 #[v, .int .i64 y] w (Ret (.bool (decide (y ∈ l))) w) := by
  have HI := hide (index_any l y v w hr)
  clear hr
  go_enter Tryd.func25, Tryd.ntmps25
  go_wp2_with fail
  with_reducible refine HI.out.mono ?_
  rintro e w1 ⟨i, rfl, hi, rfl⟩
  have HD : Hid (decide (y ∈ l) = decide (0 ≤ i)) := hide (by simp [hi])
  clear hi
  go_wp2
  go_ret
  exact ⟨by rw [HD.out]; rfl, Below.refl _ _⟩

end Go.Proofs.YtfgbbmjnjppfnaaDoor
namespace Go.Proofs.YtfgbbmjnjppfnaaDoor
open Go.ChangeShapes Go.WideShapes Go.ChangeAt Go.RowKit
set_option linter.unusedVariables false
set_option linter.unusedSimpArgs false

def stL (l : List Int) (key la : Int) : List Int := l.filter fun k => decide (la + 1 ≤ k ∧ k ≤ key - 1)
def lastOr (l : List Int) (la : Int) : Int := l.getLast?.getD la
theorem lastOr_nil (la : Int) : lastOr [] la = la := rfl
theorem lastOr_snoc (l : List Int) (y la : Int) : lastOr (l ++ [y]) la = y := by simp [lastOr]
theorem lastOr_mem (l : List Int) (la : Int) : (l = [] ∧ lastOr l la = la) ∨ lastOr l la ∈ l := by
  rcases List.eq_nil_or_concat l with rfl | ⟨l', y, rfl⟩
  · exact .inl ⟨rfl, rfl⟩
  · right
    rw [List.concat_eq_append, lastOr_snoc]; simp
theorem stL_take (l : List Int) (key la : Int) (k : Nat) (h : k < l.length) : stL (l.take (k + 1)) key la = stL (l.take k) key la ++ if la + 1 ≤ l[k] ∧ l[k] ≤ key - 1 then [l[k]] else [] := by
  unfold stL
  rw [List.take_succ_eq_append_getElem h, List.filter_append]
  congr 1
  by_cases e : la + 1 ≤ l[k] ∧ l[k] ≤ key - 1
  · rw [if_pos e, List.filter_cons, if_pos (by simp only [decide_eq_true_eq]; exact e), List.filter_nil]
  · rw [if_neg e, List.filter_cons, if_neg (by simp only [decide_eq_true_eq]; exact e), List.filter_nil]
theorem pair_lt {l : List Int} (hp : l.Pairwise (· < ·)) {j k : Nat} (hjk : j < k) (hk : k < l.length) : l[j] < l[k] := List.pairwise_iff_getElem.1 hp j k (by omega) hk hjk
theorem last_in (l : List Int) (key la : Int) (k : Nat) : (lastOr (stL (l.take k) key la) la = la) ∨ (lastOr (stL (l.take k) key la) la ∈ l.take k ∧ la < lastOr (stL (l.take k) key la) la) := by
  rcases lastOr_mem (stL (l.take k) key la) la with ⟨_, h⟩ | h
  · exact .inl h
  · right
    unfold stL at h
    rw [List.mem_filter] at h
    unfold stL
    refine ⟨h.1, ?_⟩
    have := h.2
    simp only [decide_eq_true_eq] at this
    omega
theorem last_ok {l : List Int} (hp : l.Pairwise (· < ·)) (key la : Int) (k : Nat) (h : k < l.length) : (lastOr (stL (l.take k) key la) la + 1 ≤ l[k] ∧ l[k] ≤ key - 1) ↔ (la + 1 ≤ l[k] ∧ l[k] ≤ key - 1) := by
  rcases last_in l key la k with h1 | ⟨h1, h2⟩
  · rw [h1]
  · obtain ⟨j, hj, e⟩ := List.getElem_of_mem h1
    rw [List.getElem_take] at e
    have hj2 : j < k := by simp at hj; omega
    have := pair_lt hp hj2 h
    omega
theorem krF_pair : ∀ (l : List Int) (la : Int), krF la l = 0 → l.Pairwise (· < ·) ∧ ∀ x ∈ l, la < x ∧ x ≤ 1000000
  | [], _, _ => ⟨List.Pairwise.nil, fun x hx => by cases hx⟩
  | y :: t, la, h => by
    unfold krF at h
    split at h
    · next hc =>
      obtain ⟨h1, h2⟩ := krF_pair t y h
      refine ⟨List.Pairwise.cons (fun x hx => (h2 x hx).1) h1, fun x hx => ?_⟩
      rcases List.mem_cons.1 hx with rfl | hx
      · omega
      · have := h2 x hx; omega
    · omega
theorem krL_in {l : List Int} (h : krL l = 0) : l.length ≤ 200 ∧ l.Pairwise (· < ·) ∧ ∀ x ∈ l, 0 ≤ x ∧ x ≤ 1000000 := by
  unfold krL at h
  split at h
  · omega
  · next hl =>
    obtain ⟨h1, h2⟩ := krF_pair l (-1) h
    exact ⟨by omega, h1, fun x hx => by have := h2 x hx; omega⟩
/-- Stops: in each row those that are less than the key, and more than all ahead. -/
def stRow (ks : List Int) (key la : Int) (r : Nat) : List Int := stL (rowK ks r) key la
def stAll (ks : List Int) (key : Int) : Nat → List IP × Int
  | 0 => ([], -1)
  | n + 1 => ((stAll ks key n).1 ++ (stRow ks key (stAll ks key n).2 (11 - n)).map (fun k => (((11 - n : Nat) : Int), k)), lastOr (stRow ks key (stAll ks key n).2 (11 - n)) (stAll ks key n).2)
theorem rowK_pair {ks : List Int} (h : ks.Pairwise (· < ·)) (r : Nat) : (rowK ks r).Pairwise (· < ·) := List.Pairwise.filter _ h
theorem rowK_mem {ks : List Int} {r : Nat} {x : Int} (h : x ∈ rowK ks r) : x ∈ ks := (List.mem_filter.1 h).1
theorem stAll_empty {ks : List Int} {R : Nat} (h : ∀ q, R ≤ q → rowK ks q = []) (key : Int) : ∀ n, n ≤ 12 - R → stAll ks key n = ([], -1)
  | 0, _ => rfl
  | n + 1, hn => by
    rw [stAll, stAll_empty h key n (by omega)]
    unfold stRow
    rw [h (11 - n) (by omega)]; rfl
theorem stAll_in {ks : List Int} (hb : ∀ x ∈ ks, 0 ≤ x ∧ x ≤ 1000000) (key : Int) : ∀ n, -1 ≤ (stAll ks key n).2 ∧ (stAll ks key n).2 ≤ 1000000 ∧ (stAll ks key n).1.length ≤ n * ks.length
  | 0 => by simp [stAll]
  | n + 1 => by
    obtain ⟨h1, h2, h3⟩ := stAll_in hb key n
    rw [stAll]
    simp only
    refine ⟨?_, ?_, ?_⟩
    · rcases lastOr_mem (stRow ks key (stAll ks key n).2 (11 - n)) (stAll ks key n).2 with ⟨_, h⟩ | h
      · rw [h]; exact h1
      · have := hb _ (rowK_mem (List.mem_filter.1 h).1); omega
    · rcases lastOr_mem (stRow ks key (stAll ks key n).2 (11 - n)) (stAll ks key n).2 with ⟨_, h⟩ | h
      · rw [h]; exact h2
      · have := hb _ (rowK_mem (List.mem_filter.1 h).1); omega
    · rw [List.length_append, List.length_map]
      have h4 : (stRow ks key (stAll ks key n).2 (11 - n)).length ≤ ks.length := Nat.le_trans (List.length_filter_le _ _) (rowK_len _ _)
      rw [Nat.add_mul]; omega
theorem row_stop : Row Tryd.prog 64 71 ePair 16 := row_of (z := .agg #[.int .i64 0, .int .i64 0]) (n := 2) (by kernel_rfl) Tryd.underlying64 rfl rfl (by decide)
end Go.Proofs.YtfgbbmjnjppfnaaDoor
namespace Go.Proofs.YtfgbbmjnjppfnaaDoor
open Go.ChangeShapes Go.WideShapes Go.ChangeAt Go.RowKit
set_option linter.unusedVariables false
set_option linter.unusedSimpArgs false

theorem mem_rowH {H : Int → Int} {ks : List Int} {r : Nat} {x : Int} : x ∈ rowH H ks r ↔ x ∈ ks ∧ (r : Int) < H x := by
  unfold rowH
  rw [List.mem_filter, decide_eq_true_eq]
theorem mem_rowK {ks : List Int} {r : Nat} {x : Int} : x ∈ rowK ks r ↔ x ∈ ks ∧ (r : Int) < hgtF x := mem_rowH
theorem rowH_0 {H : Int → Int} (h : ∀ k, 1 ≤ H k) (ks : List Int) : rowH H ks 0 = ks := by
  unfold rowH
  rw [List.filter_eq_self]
  intro k _
  rw [decide_eq_true_eq]
  have := h k
  omega
theorem rowK_0 (ks : List Int) : rowK ks 0 = ks := rowH_0 (fun k => (hgtF_in k).1) ks
theorem rowsN_nil : rowsN [] 12 = [] := by
  obtain ⟨R, h1, h2, h3, h4⟩ := rowsN_range []
  have : R = 0 := by
    by_cases e : R = 0
    · exact e
    · exact absurd (rowK_nil 0) (h4 0 (by omega))
  rw [h2, this]; rfl
theorem rowsN_head {ks : List Int} (h : ks ≠ []) : ∃ R, R ≤ 11 ∧ rowsN ks 12 = ks :: (List.range R).map (fun r => rowK ks (r + 1)) := by
  obtain ⟨R, h1, h2, h3, h4⟩ := rowsN_range ks
  cases R with
  | zero => exact absurd (by rw [← rowK_0 ks]; exact h3 0 (Nat.le_refl _)) h
  | succ R =>
    refine ⟨R, by omega, ?_⟩
    rw [h2, List.range_succ_eq_map, List.map_cons, List.map_map, rowK_0]
    rfl
/-- All that is known of the stops when n rows are done. -/
structure StI (ks : List Int) (key : Int) (H : Int → Int) (n : Nat) (P : List IP) (la : Int) : Prop where
  all : ∀ p ∈ P, p.2 ∈ ks ∧ p.2 < key ∧ p.1 = H p.2 - 1 ∧ p.2 ≤ la ∧ ((12 - n : Nat) : Int) ≤ p.1
  last : (P = [] ∧ la = -1) ∨ ∃ Q r, P = Q ++ [(r, la)]
  done : ∀ k ∈ ks, k < key → ((12 - n : Nat) : Int) < H k → k ≤ la
  up : P.Pairwise fun a b => a.2 < b.2 ∧ b.1 ≤ a.1
theorem stI_step {ks : List Int} {key : Int} {H : Int → Int} {n : Nat} {P : List IP} {la : Int} (hp : ks.Pairwise (· < ·)) (hb : ∀ x ∈ ks, 0 ≤ x ∧ x ≤ 1000000) (h : StI ks key H n P la) (hn : n < 12) :
    StI ks key H (n + 1) (P ++ (stL (rowH H ks (11 - n)) key la).map fun k => (((11 - n : Nat) : Int), k)) (lastOr (stL (rowH H ks (11 - n)) key la) la) := by
  obtain ⟨r, hr⟩ : ∃ r, r = 11 - n := ⟨_, rfl⟩
  have e1 : 12 - n = r + 1 := by omega
  have e2 : 12 - (n + 1) = r := by omega
  obtain ⟨h1, h2, h3, h4⟩ := h
  rw [e1] at h1 h3
  rw [← hr]
  have hL : ∀ k, k ∈ stL (rowH H ks r) key la ↔ k ∈ ks ∧ (r : Int) < H k ∧ la + 1 ≤ k ∧ k ≤ key - 1 := fun k => by
    unfold stL
    rw [List.mem_filter, mem_rowH, decide_eq_true_eq]
    exact and_assoc
  have hLp : (stL (rowH H ks r) key la).Pairwise (· < ·) := List.Pairwise.filter _ (List.Pairwise.filter _ hp)
  obtain ⟨L, hLe⟩ : ∃ L, L = stL (rowH H ks r) key la := ⟨_, rfl⟩
  rw [← hLe] at hL hLp ⊢
  have hH : ∀ k ∈ L, H k = (r : Int) + 1 := fun k hk => by
    obtain ⟨a, b, c, d⟩ := (hL k).1 hk
    by_cases e : (((r + 1 : Nat)) : Int) < H k
    · have := h3 k a (by omega) e; omega
    · omega
  have hlast : (L = [] ∧ lastOr L la = la) ∨ (lastOr L la ∈ L ∧ ∀ k ∈ L, k ≤ lastOr L la) := by
    rcases List.eq_nil_or_concat L with e | ⟨L', y, e⟩
    · exact .inl ⟨e, by rw [e]; rfl⟩
    · right
      rw [List.concat_eq_append] at e
      rw [e, lastOr_snoc]
      refine ⟨by simp, fun k hk => ?_⟩
      rw [e] at hLp
      rcases List.mem_append.1 hk with hk | hk
      · have := (List.pairwise_append.1 hLp).2.2 k hk y (by simp); omega
      · simp at hk; omega
  have hge : la ≤ lastOr L la := by
    rcases hlast with ⟨_, e⟩ | ⟨e, _⟩
    · omega
    · have := ((hL _).1 e).2.2.1; omega
  refine ⟨fun p hp' => ?_, ?_, fun k hk hkk hkr => ?_, ?_⟩
  · rw [e2]
    rcases List.mem_append.1 hp' with hp' | hp'
    · obtain ⟨a, b, c, d, f⟩ := h1 p hp'
      exact ⟨a, b, c, by omega, by omega⟩
    · obtain ⟨k, hk, rfl⟩ := List.mem_map.1 hp'
      obtain ⟨a, b, c, d⟩ := (hL k).1 hk
      have := hH k hk
      refine ⟨a, by simp only; omega, by simp only; omega, ?_, Int.le_refl _⟩
      rcases hlast with ⟨e, _⟩ | ⟨_, e⟩
      · rw [e] at hk; cases hk
      · exact e k hk
  · rcases List.eq_nil_or_concat L with e | ⟨L', y, e⟩
    · rw [e, List.map_nil, List.append_nil, lastOr_nil]; exact h2
    · right
      rw [List.concat_eq_append] at e
      rw [e, lastOr_snoc, List.map_append, ← List.append_assoc]
      exact ⟨_, _, rfl⟩
  · rw [e2] at hkr
    by_cases e : la + 1 ≤ k
    · have hm : k ∈ L := (hL k).2 ⟨hk, hkr, e, by omega⟩
      rcases hlast with ⟨e', _⟩ | ⟨_, e'⟩
      · rw [e'] at hm; cases hm
      · exact e' k hm
    · omega
  · rw [List.pairwise_append]
    refine ⟨h4, ?_, fun a ha b hb' => ?_⟩
    · rw [List.pairwise_map]
      exact hLp.imp fun h => ⟨h, Int.le_refl _⟩
    · obtain ⟨k, hk, rfl⟩ := List.mem_map.1 hb'
      obtain ⟨_, _, _, d, f⟩ := h1 a ha
      have := ((hL k).1 hk).2.2.1
      simp only
      omega
theorem stI_all {ks : List Int} {key : Int} (hp : ks.Pairwise (· < ·)) (hb : ∀ x ∈ ks, 0 ≤ x ∧ x ≤ 1000000) : ∀ n, n ≤ 12 → StI ks key hgtF n (stAll ks key n).1 (stAll ks key n).2
  | 0, _ => ⟨fun p hp => (by cases hp), .inl ⟨rfl, rfl⟩, fun k hk _ h => (by have := (hgtF_in k).2; omega), List.Pairwise.nil⟩
  | n + 1, hn => stI_step hp hb (stI_all hp hb n (by omega)) (by omega)
/-- The nearest key below. -/
def belowL (ks : List Int) (key : Int) : Int := lastOr (ks.filter fun k => decide (k < key)) (-1)
theorem belowL_take (ks : List Int) (key : Int) (k : Nat) (h : k < ks.length) : belowL (ks.take (k + 1)) key = if ks[k] < key then ks[k] else belowL (ks.take k) key := by
  unfold belowL
  rw [List.take_succ_eq_append_getElem h, List.filter_append]
  by_cases e : ks[k] < key
  · rw [if_pos e]
    have : ([ks[k]].filter fun k => decide (k < key)) = [ks[k]] := by simp [e]
    rw [this, lastOr_snoc]
  · rw [if_neg e]
    have : ([ks[k]].filter fun k => decide (k < key)) = [] := by simp [e]
    rw [this, List.append_nil]
theorem belowL_st {ks : List Int} {key : Int} (hp : ks.Pairwise (· < ·)) (hb : ∀ x ∈ ks, 0 ≤ x ∧ x ≤ 1000000) : belowL ks key = (stAll ks key 12).2 := by
  obtain ⟨h1, h2, h3, h4⟩ := stI_all (key := key) hp hb 12 (Nat.le_refl _)
  have hF : ∀ k, k ∈ (ks.filter fun k => decide (k < key)) ↔ k ∈ ks ∧ k < key := fun k => by rw [List.mem_filter, decide_eq_true_eq]
  have hFp : (ks.filter fun k => decide (k < key)).Pairwise (· < ·) := List.Pairwise.filter _ hp
  have hla : (stAll ks key 12).2 = -1 ∨ ((stAll ks key 12).2 ∈ ks ∧ (stAll ks key 12).2 < key) := by
    rcases h2 with ⟨_, e⟩ | ⟨Q, r, e⟩
    · exact .inl e
    · right
      have := h1 (r, (stAll ks key 12).2) (by rw [e]; simp)
      exact ⟨this.1, this.2.1⟩
  unfold belowL
  rcases List.eq_nil_or_concat (ks.filter fun k => decide (k < key)) with e | ⟨L', y, e⟩
  · rw [e, lastOr_nil]
    rcases hla with h | h
    · exact h.symm
    · have := (hF _).2 h
      rw [e] at this; cases this
  · rw [List.concat_eq_append] at e
    rw [e, lastOr_snoc]
    have hy := (hF y).1 (by rw [e]; simp)
    have hle := h3 y hy.1 hy.2 (by have := (hgtF_in y).1; omega)
    rcases hla with h | h
    · have := hb y hy.1; omega
    · have hm := (hF _).2 h
      rw [e] at hm hFp
      rcases List.mem_append.1 hm with hm | hm
      · have := (List.pairwise_append.1 hFp).2.2 _ hm y (by simp); omega
      · simp at hm; omega
end Go.Proofs.YtfgbbmjnjppfnaaDoor
namespace Go.Proofs.YtfgbbmjnjppfnaaDoor
open Go.ChangeShapes Go.WideShapes Go.ChangeAt Go.RowKit
set_option linter.unusedVariables false
set_option linter.unusedSimpArgs false

/-- Nothing higher stands between k and the key. -/
def seen (ks : List Int) (key : Int) (H : Int → Int) (k : Int) : Prop := ∀ q ∈ ks, k < q → q < key → H q ≤ H k
theorem seen_step {ks : List Int} {key : Int} {H : Int → Int} {n : Nat} {P : List IP} {la : Int} (hb : ∀ x ∈ ks, 0 ≤ x ∧ x ≤ 1000000) (h : StI ks key H n P la) (hn : n < 12)
    (hs : ∀ x, x ∈ P.map Prod.snd ↔ x ∈ ks ∧ x < key ∧ ((12 - n : Nat) : Int) < H x ∧ seen ks key H x) :
    ∀ x, x ∈ (P ++ (stL (rowH H ks (11 - n)) key la).map fun k => (((11 - n : Nat) : Int), k)).map Prod.snd ↔ x ∈ ks ∧ x < key ∧ ((12 - (n + 1) : Nat) : Int) < H x ∧ seen ks key H x := by
  intro x
  have e2 : 12 - (n + 1) = 11 - n := by omega
  have e1 : ((12 - n : Nat) : Int) = ((11 - n : Nat) : Int) + 1 := by omega
  obtain ⟨h1, h2, h3, h4⟩ := h
  rw [e1] at h1 h3 hs
  rw [e2]
  have hL : x ∈ stL (rowH H ks (11 - n)) key la ↔ x ∈ ks ∧ ((11 - n : Nat) : Int) < H x ∧ la + 1 ≤ x ∧ x ≤ key - 1 := by
    unfold stL
    rw [List.mem_filter, mem_rowH, decide_eq_true_eq]
    exact and_assoc
  rw [List.map_append, List.mem_append, hs x, List.map_map, show (Prod.snd ∘ fun k : Int => (((11 - n : Nat) : Int), k)) = id from rfl, List.map_id, hL]
  generalize ((11 - n : Nat) : Int) = r at *
  constructor
  · rintro (⟨a, b, c, d⟩ | ⟨a, b, c, d⟩)
    · exact ⟨a, b, by omega, d⟩
    · refine ⟨a, by omega, b, fun q hq h5 h6 => ?_⟩
      by_cases e : r + 1 < H q
      · have := h3 q hq h6 e; omega
      · omega
  · rintro ⟨a, b, c, d⟩
    by_cases e : r + 1 < H x
    · exact .inl ⟨a, b, e, d⟩
    · refine .inr ⟨a, c, ?_, by omega⟩
      rcases h2 with ⟨_, h2⟩ | ⟨Q, q, h2⟩
      · have := (hb x a).1; omega
      · obtain ⟨f1, f2, f3, _, f5⟩ := h1 (q, la) (by rw [h2]; simp)
        simp only at f1 f2 f3 f5
        by_cases e3 : la + 1 ≤ x
        · exact e3
        · exfalso
          by_cases e4 : x = la
          · subst e4; omega
          · have := d la f1 (by omega) f2
            omega
theorem seen_all {ks : List Int} {key : Int} (hp : ks.Pairwise (· < ·)) (hb : ∀ x ∈ ks, 0 ≤ x ∧ x ≤ 1000000) : ∀ n, n ≤ 12 → ∀ x, x ∈ (stAll ks key n).1.map Prod.snd ↔ x ∈ ks ∧ x < key ∧ ((12 - n : Nat) : Int) < hgtF x ∧ seen ks key hgtF x
  | 0, _, x => by
    have h1 := (hgtF_in x).2
    have : (stAll ks key 0).1 = [] := rfl
    rw [this]
    generalize hgtF x = t at *
    constructor
    · intro h; cases h
    · rintro ⟨_, _, h, _⟩; omega
  | n + 1, hn, x => seen_step hb (stI_all hp hb n (by omega)) (by omega) (seen_all hp hb n (by omega)) x
/-- Two rising lists of the same are the same. -/
theorem rise_ext : ∀ {a b : List Int}, a.Pairwise (· < ·) → b.Pairwise (· < ·) → (∀ x, x ∈ a ↔ x ∈ b) → a = b
  | [], [], _, _, _ => rfl
  | [], y :: b, _, _, h => by have := (h y).2 (by simp); cases this
  | y :: a, [], _, _, h => by have := (h y).1 (by simp); cases this
  | y :: a, z :: b, ha, hb, h => by
    obtain ⟨a1, a2⟩ := List.pairwise_cons.1 ha
    obtain ⟨b1, b2⟩ := List.pairwise_cons.1 hb
    have e : y = z := by
      rcases List.mem_cons.1 ((h y).1 (by simp)) with e | m
      · exact e
      · rcases List.mem_cons.1 ((h z).2 (by simp)) with e | m2
        · exact e.symm
        · have := b1 y m; have := a1 z m2; omega
    subst e
    rw [rise_ext a2 b2 fun x => ?_]
    constructor
    · intro hx
      rcases List.mem_cons.1 ((h x).1 (by simp [hx])) with e | m
      · have := a1 x hx; omega
      · exact m
    · intro hx
      rcases List.mem_cons.1 ((h x).2 (by simp [hx])) with e | m
      · have := b1 x hx; omega
      · exact m
/-- The stops of a way, by their keys. -/
theorem stops_rise {ks : List Int} {key : Int} (hp : ks.Pairwise (· < ·)) (hb : ∀ x ∈ ks, 0 ≤ x ∧ x ≤ 1000000) : ((stAll ks key 12).1.map Prod.snd).Pairwise (· < ·) := by
  have h := (stI_all (key := key) hp hb 12 (Nat.le_refl _)).up
  rw [List.pairwise_map]
  exact h.imp fun h => h.1
theorem stops_mem {ks : List Int} {key : Int} (hp : ks.Pairwise (· < ·)) (hb : ∀ x ∈ ks, 0 ≤ x ∧ x ≤ 1000000) (x : Int) : x ∈ (stAll ks key 12).1.map Prod.snd ↔ x ∈ ks ∧ x < key ∧ seen ks key hgtF x := by
  rw [seen_all hp hb 12 (Nat.le_refl _) x]
  have h1 := (hgtF_in x).1
  generalize hgtF x = t at *
  constructor
  · rintro ⟨a, b, _, d⟩; exact ⟨a, b, d⟩
  · rintro ⟨a, b, d⟩; exact ⟨a, b, by omega, d⟩
end Go.Proofs.YtfgbbmjnjppfnaaDoor
namespace Go.Proofs.YtfgbbmjnjppfnaaDoor
open Go.ChangeShapes Go.WideShapes Go.ChangeAt Go.RowKit
set_option linter.unusedVariables false
set_option linter.unusedSimpArgs false

/-- Those above a key's place that are less, from the top on. -/
def lessUp : MT IP → Int → List Int
  | .nil, _ => []
  | .node a l r, key => if a.1 < key then a.1 :: lessUp r key else lessUp l key
def seenT (L : List IP) (key : Int) (p : IP) : Prop := ∀ q ∈ L, p.1 < q.1 → q.1 < key → q.2 ≤ p.2
theorem lessUp_in : ∀ (T : MT IP) (key x : Int), x ∈ lessUp T key → x ∈ (nd T).map Prod.fst
  | .nil, _, _, h => by cases h
  | .node a l r, key, x, h => by
    rw [lessUp] at h
    rw [nd, List.map_append, List.map_cons, List.mem_append, List.mem_cons]
    split at h
    · rcases List.mem_cons.1 h with e | h
      · exact .inr (.inl e)
      · exact .inr (.inr (lessUp_in r key x h))
    · exact .inl (lessUp_in l key x h)
theorem lessUp_rise : ∀ {T : MT IP} (key : Int), UpN (nd T) → (lessUp T key).Pairwise (· < ·)
  | .nil, _, _ => List.Pairwise.nil
  | .node a l r, key, h => by
    obtain ⟨h1, h2, h3, h4, _⟩ := upN_node h
    rw [lessUp]
    split
    · rw [List.pairwise_cons]
      refine ⟨fun x hx => ?_, lessUp_rise key h2⟩
      obtain ⟨p, hp, rfl⟩ := List.mem_map.1 (lessUp_in r key x hx)
      exact h4 p hp
    · exact lessUp_rise key h1
theorem lessUp_mem : ∀ {T : MT IP} (key x : Int), UpN (nd T) → Hp T → (∀ p ∈ nd T, p.1 ≠ key) → (x ∈ lessUp T key ↔ ∃ p ∈ nd T, p.1 = x ∧ p.1 < key ∧ seenT (nd T) key p)
  | .nil, key, x, _, _, _ => by simp [lessUp, nd]
  | .node a l r, key, x, h, hh, hk => by
    obtain ⟨h1, h2, h3, h4, h5⟩ := upN_node h
    obtain ⟨g1, g2, g3, g4⟩ := hh
    have hka := hk a (by simp [nd])
    rw [lessUp]
    by_cases e : a.1 < key
    · rw [if_pos e, List.mem_cons, lessUp_mem key x h2 g4 fun p hp => hk p (by simp [nd, hp])]
      constructor
      · rintro (rfl | ⟨p, hp, rfl, hlt, hs⟩)
        · refine ⟨a, by simp [nd], rfl, e, fun q hq l1 l2 => ?_⟩
          rw [nd, List.mem_append, List.mem_cons] at hq
          rcases hq with hq | rfl | hq
          · have := h3 q hq; omega
          · omega
          · have := (ov_iff a q).1 (g2 q hq); omega
        · refine ⟨p, by simp [nd, hp], rfl, hlt, fun q hq l1 l2 => ?_⟩
          have hpa := h4 p hp
          rw [nd, List.mem_append, List.mem_cons] at hq
          rcases hq with hq | rfl | hq
          · have := h3 q hq; omega
          · omega
          · exact hs q hq l1 l2
      · rintro ⟨p, hp, rfl, hlt, hs⟩
        rw [nd, List.mem_append, List.mem_cons] at hp
        rcases hp with hp | rfl | hp
        · exfalso
          have l1 := h3 p hp
          have l2 := hs a (by simp [nd]) l1 e
          have := (ov_iff a p).1 (g1 p hp)
          omega
        · exact .inl rfl
        · exact .inr ⟨p, hp, rfl, hlt, fun q hq l1 l2 => hs q (by simp [nd, hq]) l1 l2⟩
    · rw [if_neg e, lessUp_mem key x h1 g3 fun p hp => hk p (by simp [nd, hp])]
      constructor
      · rintro ⟨p, hp, rfl, hlt, hs⟩
        refine ⟨p, by simp [nd, hp], rfl, hlt, fun q hq l1 l2 => ?_⟩
        rw [nd, List.mem_append, List.mem_cons] at hq
        rcases hq with hq | rfl | hq
        · exact hs q hq l1 l2
        · omega
        · have := h4 q hq; omega
      · rintro ⟨p, hp, rfl, hlt, hs⟩
        rw [nd, List.mem_append, List.mem_cons] at hp
        rcases hp with hp | rfl | hp
        · exact ⟨p, hp, rfl, hlt, fun q hq l1 l2 => hs q (by simp [nd, hq]) l1 l2⟩
        · omega
        · have := h4 p hp; omega
/-- TARJAN, LEVY, TIMMEL: those above a key's place that are less are the stops of the way to it. -/
theorem lessUp_stops {T : MT IP} {ks : List Int} {key : Int} (hT : nd T = ks.map zk) (hh : Hp T) (hp : ks.Pairwise (· < ·)) (hb : ∀ x ∈ ks, 0 ≤ x ∧ x ≤ 1000000) (hk : ¬ key ∈ ks) :
    lessUp T key = (stAll ks key 12).1.map Prod.snd := by
  have hup : UpN (nd T) := by
    rw [hT, UpN, List.pairwise_map]
    exact hp
  refine rise_ext (lessUp_rise key hup) (stops_rise hp hb) fun x => ?_
  rw [stops_mem hp hb, lessUp_mem key x hup hh fun p hp e => by
    rw [hT] at hp
    obtain ⟨k, hk2, rfl⟩ := List.mem_map.1 hp
    exact hk (by rw [← e]; exact hk2)]
  rw [hT]
  constructor
  · rintro ⟨p, hm, rfl, hlt, hs⟩
    obtain ⟨k, hk2, rfl⟩ := List.mem_map.1 hm
    exact ⟨hk2, hlt, fun q hq l1 l2 => hs (zk q) (List.mem_map.2 ⟨q, hq, rfl⟩) l1 l2⟩
  · rintro ⟨hm, hlt, hs⟩
    refine ⟨zk x, List.mem_map.2 ⟨x, hm, rfl⟩, rfl, hlt, fun q hq l1 l2 => ?_⟩
    obtain ⟨k, hk2, rfl⟩ := List.mem_map.1 hq
    exact hs k hk2 l1 l2
end Go.Proofs.YtfgbbmjnjppfnaaDoor
