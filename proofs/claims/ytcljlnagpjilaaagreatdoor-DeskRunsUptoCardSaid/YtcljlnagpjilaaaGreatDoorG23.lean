/-
  hedgref.Below, Has, Without, nth, With: what they answer
-/
import Derived.Test.YtcljlnagpjilaaaGreatDoorG7

set_option linter.unusedVariables false
set_option linter.unusedSimpArgs false
set_option maxRecDepth 100000
set_option maxHeartbeats 8000000
namespace Go.Proofs.YtcljlnagpjilaaaGreatDoor
open Go.ChangeShapes Go.WideShapes Go.ChangeAt Go.RowKit
theorem below_snoc (l : List IP) (k : Nat) (h : k < l.length) (key : Int) : below (l.take (k + 1)) key = below (l.take k) key + if l[k].1 < key then 1 else 0 := by
 rw [List.take_succ_eq_append_getElem h, below, below, List.filter_append, List.length_append]
 congr 1
 by_cases hd : l[k].1 < key <;> simp [hd]
def BlRel (l : List IP) (key : Int) (w : World) (nv iv : Value) (wr : World) : Prop := ∃ k : Nat, k <= l.length /\ iv = .int .i64 k /\ nv = .int .i64 (below (l.take k) key : Nat) /\ Kp w wr
theorem belowR_any (l : List IP) (v : Value) (key : Int) (w : World) (hr : RD w ePair v l) (hn : l.length <= 1000000) : Calls Tryz.prog 90 #[v, .int .i64 key] w (Ret (.int .i64 (below l key : Nat)) w) := by
 obtain ⟨A, c, rfl, hc, hm⟩ := hr.shape
 have HR := hide hr
 clear hr
 go_enter Tryz.func90, Tryz.ntmps90
 go_wp2
 go_loopw [5, 10] (BlRel l key w) (fun _ i _ => l.length - (intOf i).toNat)
 case atStart => exact ⟨0, by omega, rfl, rfl, Kp.refl _⟩
 case round =>
  obtain ⟨k, hk, rfl, rfl, hkp⟩ := hrel
  have hb := below_le (l.take k) key
  have hb2 : below (l.take k) key <= k := by simp at hb; omega
  obtain ⟨B, hB⟩ : ∃ B, B = below (l.take k) key := ⟨_, rfl⟩
  by_cases hlt : k < l.length
  ·obtain ⟨b, o, rfl, _, c0, c1⟩ := (HR.out.kp hkp).pair hlt
   have hs := below_snoc l k hlt key
   rw [<- hB] at hs hb2 ⊢
   clear hb
   by_cases hd : l[k].1 < key
   ·rw [if_pos hd] at hs
    have HS := hide hs
    clear hs hB
    go_wp2
    go_roundw
    case rel => exact ⟨k + 1, by omega, by go_num, by rw [HS.out]; go_num, hkp.alloc⟩
    case measure => simp [intOf]; omega
   ·rw [if_neg hd] at hs
    have HS := hide hs
    have d1 : decide (l[k].1 < key) = false := by simp; omega
    clear hs hB hd
    go_wp2
    go_roundw
    case rel => exact ⟨k + 1, by omega, by go_num, by rw [HS.out, Nat.add_zero], hkp.alloc⟩
    case measure => simp [intOf]; omega
  ·have hl : Hid (below l key = B) := hide (by rw [hB, List.take_of_length_le (by omega)])
   rw [<- hB]
   clear hb hb2 hB
   go_wp2
   go_ret
   exact ⟨by rw [hl.out]; rfl, hkp.bel⟩
def hasR (l : List IP) (key : Int) : Int × Bool := match l.find? (fun p => p.1 == key) with | some p => (p.2, true) | none => (0, false)
theorem hasR_drop (l : List IP) (k : Nat) (h : k < l.length) (key : Int) : hasR (l.drop k) key = if l[k].1 = key then (l[k].2, true) else hasR (l.drop (k + 1)) key := by
 rw [List.drop_eq_getElem_cons h, hasR, List.find?_cons]
 by_cases hd : l[k].1 = key
 ·have : (l[k].1 == key) = true := by simp [hd]
  rw [this, if_pos hd]
 ·have : (l[k].1 == key) = false := by simp [hd]
  rw [this, if_neg hd]; rfl
def HsRel (l : List IP) (key : Int) (w : World) (iv : Value) (wr : World) : Prop := ∃ k : Nat, k <= l.length /\ iv = .int .i64 k /\ hasR (l.drop k) key = hasR l key /\ Kp w wr
theorem hasR_any (l : List IP) (v : Value) (key : Int) (w : World) (hr : RD w ePair v l) : Calls Tryz.prog 86 #[v, .int .i64 key] w (Ret (.tuple #[.int .i64 (hasR l key).1, .bool (hasR l key).2]) w) := by
 obtain ⟨A, c, rfl, hc, hm⟩ := hr.shape
 have HR := hide hr
 clear hr
 go_enter Tryz.func86, Tryz.ntmps86
 go_wp2
 go_loopw [10] (HsRel l key w) (fun i _ => l.length - (intOf i).toNat)
 case atStart => exact ⟨0, by omega, rfl, rfl, Kp.refl _⟩
 case round =>
  obtain ⟨k, hk, rfl, hh, hkp⟩ := hrel
  have HH := hide hh
  clear hh
  by_cases hlt : k < l.length
  ·obtain ⟨b, o, rfl, _, c0, c1⟩ := (HR.out.kp hkp).pair hlt
   have hs := hasR_drop l k hlt key
   by_cases hd : l[k].1 = key
   ·rw [if_pos hd, HH.out] at hs
    have HS := hide hs
    have d1 : (l[k].1 == key) = true := by simp [hd]
    clear hs hd
    go_wp2
    go_ret2
    exact ⟨by rw [HS.out]; rfl, hkp.alloc.bel⟩
   ·rw [if_neg hd, HH.out] at hs
    have HS := hide hs
    have d1 : (l[k].1 == key) = false := by simp [hd]
    clear hs hd
    go_wp2
    go_roundw
    case rel => exact ⟨k + 1, by omega, by go_num, HS.out.symm, hkp.alloc⟩
    case measure => simp [intOf]; omega
  ·have hl : Hid (hasR l key = (0, false)) := hide (by rw [<- HH.out, List.drop_of_length_le (by omega)]; rfl)
   go_wp2
   go_ret2
   exact ⟨by rw [hl.out]; rfl, hkp.bel⟩
def NthRel (l : List IP) (n : Int) (w : World) (iv : Value) (wr : World) : Prop := ∃ k : Nat, k <= l.length /\ iv = .int .i64 k /\ (∀ j : Nat, j < k -> (j : Int) ≠ n) /\ BX wr w.heap.size ⟨0, 0, 0, false⟩ /\ FZ wr w.heap.size /\ Kp w wr
theorem nth_any (l : List IP) (v : Value) (n : Int) (w : World) (hr : RD w ePair v l) : Calls Tryz.prog 89 #[v, .int .i64 n] w (Ret (toldL l n).v w) := by
 obtain ⟨A, c, rfl, hc, hm⟩ := hr.shape
 have HR := hide hr
 clear hr
 go_enter Tryz.func89, Tryz.ntmps89
 go_wp2
 go_loopw [9] (NthRel l n w) (fun i _ => l.length - (intOf i).toNat)
 case atStart => exact ⟨0, by omega, rfl, fun j hj => by omega, BX.new _ _ _ _ _ _, FZ.new _ _ _, (Kp.refl w).alloc⟩
 case round =>
  obtain ⟨k, hk, rfl, hall, hbx, hfz, hkp⟩ := hrel
  have HALL := hide hall
  have HBX := hide hbx
  have HFZ := hide hfz
  have hlt0 := hbx.lt
  have n1 : ¬ w.heap.size = wr.heap.size := by omega
  have n2 : ¬ wr.heap.size = w.heap.size := by omega
  clear hall
  by_cases hlt : k < l.length
  ·obtain ⟨b, o, rfl, _, c0, c1⟩ := (HR.out.kp hkp).pair hlt
   by_cases hd : (k : Int) = n
   ·have HT := hide (toldL_at l k hlt)
    subst hd
    have d1 : ((k : Int) == (k : Int)) = true := by simp
    obtain ⟨r0, r1, r2, r3⟩ := hbx.kp ((Kp.refl wr).alloc (o := .cells #[.int .i64 l[k].1, .int .i64 l[k].2] 141))
    obtain ⟨f0, f1, f2, f3⟩ := hfz.kp hlt0 ((Kp.refl wr).alloc (o := .cells #[.int .i64 l[k].1, .int .i64 l[k].2] 141))
    obtain ⟨x0, x1, x2, x3⟩ := hbx
    obtain ⟨y0, y1, y2, y3⟩ := hfz
    simp only at r0 r1 r2 r3 x0 x1 x2 x3
    go_wp2
    obtain ⟨s0, s1, s2, s3⟩ := (HBX.out.set 0 l[k].1 l[k].2 true).kp ((Kp.refl _).alloc (o := .cells #[.int .i64 l[k].1, .int .i64 l[k].2] 141))
    simp only at s0 s1 s2 s3
    refine bodyPost_ret (v := (⟨0, l[k].1, l[k].2, true⟩ : An).v) (by simp [results, Tryz.results89, go_sem, An.v, s0, s1, s2, s3]) rfl ⟨by rw [HT.out], ?_⟩
    exact Kp.bel (Kp.alloc (Kp.setR (by simp) (Kp.setR (by simp) (Kp.setR (by simp) (Kp.setR (by simp) hkp)))))
   ·have d1 : ((k : Int) == n) = false := by simp [hd]
    have HD : Hid (∀ j : Nat, j < k + 1 -> (j : Int) ≠ n) := hide (fun j hj => by
     rcases Nat.lt_or_ge j k with h | h
     ·exact HALL.out j h
     ·have : j = k := by omega
      rw [this]; exact hd)
    clear hd hbx hfz
    go_wp2
    go_roundw
    case rel => exact ⟨k + 1, by omega, by go_num, HD.out, HBX.out.kp (Kp.refl wr).alloc, HFZ.out.kp hlt0 (Kp.refl wr).alloc, hkp.alloc⟩
    case measure => simp [intOf]; omega
  ·have HT : Hid (toldL l n = ⟨0, 0, 0, false⟩) := hide (toldL_no l n (fun h => by
    have := HALL.out n.toNat (by omega)
    omega))
   obtain ⟨r0, r1, r2, r3⟩ := hbx
   obtain ⟨f0, f1, f2, f3⟩ := hfz
   simp only at r0 r1 r2 r3
   go_wp2
   refine bodyPost_ret (v := (⟨0, 0, 0, false⟩ : An).v) (by simp [results, Tryz.results89, go_sem, An.v, r0, r1, r2, r3]) rfl ⟨by rw [HT.out], ?_⟩
   exact Kp.bel (Kp.setR (by simp) (Kp.setR (by simp) (Kp.setR (by simp) (Kp.setR (by simp) hkp))))
def without (l : List IP) (key : Int) : List IP := l.filter fun p => !(p.1 == key)
theorem without_snoc (l : List IP) (k : Nat) (h : k < l.length) (key : Int) : without (l.take (k + 1)) key = without (l.take k) key ++ if l[k].1 = key then [] else [l[k]] := by
 rw [List.take_succ_eq_append_getElem h, without, without, List.filter_append]
 congr 1
 by_cases hd : l[k].1 = key <;> simp [hd]
def WoRel (l : List IP) (key : Int) (w : World) (ov iv : Value) (wr : World) : Prop := ∃ k : Nat, k <= l.length /\ iv = .int .i64 k /\ OW wr w.heap.size 141 ePair ov (without (l.take k) key) /\ Kp w wr
theorem without_any (l : List IP) (v : Value) (key : Int) (w : World) (hr : RD w ePair v l) (hn : l.length <= 1000000) : Calls Tryz.prog 88 #[v, .int .i64 key] w (RetOW 141 ePair (without l key) w) := by
 obtain ⟨A, c, rfl, hc, hm⟩ := hr.shape
 have HR := hide hr
 clear hr
 go_enter Tryz.func88, Tryz.ntmps88
 go_wp2
 go_loopw [5, 10] (WoRel l key w) (fun _ i _ => l.length - (intOf i).toNat)
 case atStart => exact ⟨0, by omega, rfl, OW.nil, Kp.refl _⟩
 case round =>
  obtain ⟨k, hk, rfl, ho, hkp⟩ := hrel
  have hi := ho.hi
  have hwl : (without (l.take k) key).length <= k := by
   have := List.length_filter_le (fun p : IP => !(p.1 == key)) (l.take k)
   simp at this
   have h2 : (without (l.take k) key).length = ((l.take k).filter fun p => !(p.1 == key)).length := rfl
   omega
  obtain ⟨A5, c5, hv5, hc5, hm5⟩ := ho.rd.shape
  subst hv5
  obtain ⟨X, hX⟩ : ∃ X, X = without (l.take k) key := ⟨_, rfl⟩
  by_cases hlt : k < l.length
  ·obtain ⟨b, o, rfl, _, c0, c1⟩ := (HR.out.kp hkp).pair hlt
   have hs := without_snoc l k hlt key
   rw [<- hX] at hs ho hwl hc5 hi ⊢
   clear hX
   by_cases hd : l[k].1 = key
   ·rw [if_pos hd, List.append_nil] at hs
    have HS := hide hs
    have d1 : (l[k].1 != key) = false := by simp [hd]
    clear hs hd
    go_wp2
    go_roundw
    case rel => exact ⟨k + 1, by omega, by go_num, by rw [HS.out]; exact ho.alloc _, hkp.alloc⟩
    case measure => simp [intOf]; omega
   ·rw [if_neg hd] at hs
    have HS := hide hs
    have d1 : (l[k].1 != key) = true := by simp [hd]
    have HM1 : Hid ((X.length + [l[k]].length) * 16 <= 140737488355328) := hide (by simp; omega)
    have HM2 : Hid (X.length + [l[k]].length <= maxLen) := hide (by simp [maxLen]; omega)
    clear hs hd hwl
    go_wp2_with (at_builtin; (with_reducible refine list_app (B := w.heap.size) (l := X) (m := [l[k]]) row_pair (.slice A5 X.length c5) ?_ (.tmp 18) (.tmp 20) ?_ ?_ ?_ ?_ HM1.out HM2.out ?_ ?_); (with_reducible rfl); (with_reducible rfl); rfl; (exact OW.auto); (show RD _ _ (.slice (some ⟨_, 0, none⟩) 1 1) _; (exact RD.auto)); (exact Kp.size (w := w) (by (exact Kp.auto))); intro v3 w3 ho3 hg3 hat3)
    go_roundw
    case rel => exact ⟨k + 1, by omega, by go_num, by rw [HS.out]; exact ho3, (by (exact Kp.auto))⟩
    case measure => simp [intOf]; omega
  ·have hl : Hid (without l key = X) := hide (by rw [hX, List.take_of_length_le (by omega)])
   rw [<- hX] at ho ⊢
   clear hX hwl
   go_wp2
   go_ret
   exact ⟨_, rfl, by rw [hl.out]; exact ho, hkp.bel⟩
def withL (l : List IP) (p : IP) : List IP := (without l p.1).take (below (without l p.1) p.1) ++ [p] ++ (without l p.1).drop (below (without l p.1) p.1)
theorem with_any (l : List IP) (v : Value) (key val : Int) (w : World) (hr : RD w ePair v l) (hn : l.length <= 1000) : Calls Tryz.prog 87 #[v, .agg #[.int .i64 key, .int .i64 val]] w (RetOW 141 ePair (withL l (key, val)) w) := by
 have HR := hide hr
 clear hr
 have hwl : (without l key).length <= l.length := List.length_filter_le _ _
 have HW := hide (fun W v h => without_any l v key W h (by omega))
 have HBL := hide (fun W v h => belowR_any (without l key) v key W h (by omega))
 have hble := below_le (without l key) key
 have HE : Hid (withL l (key, val) = (without l key).take (below (without l key) key) ++ [(key, val)] ++ (without l key).drop (below (without l key) key)) := hide rfl
 obtain ⟨M, hM⟩ : ∃ M, M = without l key := ⟨_, rfl⟩
 rw [<- hM] at HW HBL HE hwl hble
 obtain ⟨n, hn'⟩ : ∃ n, n = below M key := ⟨_, rfl⟩
 rw [<- hn'] at HBL HE hble
 clear hM hn'
 go_enter Tryz.func87, Tryz.ntmps87
 go_wp2_with fail
 refine (HW.out _ _ (HR.out.alloc _)).mono ?_
 rintro e w1 ⟨v1, rfl, ho1, hb1⟩
 have kk1 := Kp.of hb1
 have p0 := kk1.cell (p := ⟨w.heap.size, 0, none⟩) (u := .int .i64 key) (by simp [go_sem])
 have p1 := kk1.cell (p := ⟨w.heap.size, 1, none⟩) (u := .int .i64 val) (by simp [go_sem])
 have HO1 := hide ho1.rd
 have HOW := hide ho1
 clear ho1 hb1
 go_wp2_with fail
 refine (HBL.out _ _ HO1.out).mono ?_
 rintro e w2 ⟨rfl, hb2⟩
 have kk2 := Kp.of hb2
 have p0' := kk2.cell p0
 have p1' := kk2.cell p1
 have KW : Kp w w2 := by (focus ((repeat (first | (with_reducible first | assumption | exact Kp.refl _ | apply Kp.drew | apply Kp.drewN | apply Kp.alloc) | ((with_reducible apply Kp.callK); (with_reducible assumption)))); done))
 have hlt0 : w.heap.size < w2.heap.size := World.block_lt_of_cell? _ _ p0'
 have HO2 := hide (HOW.out.kp kk2)
 have HM1 : Hid ((([] : List IP).length + (M.take n).length) * 16 <= 140737488355328) := hide (by simp; omega)
 have HM2 : Hid (([] : List IP).length + (M.take n).length <= maxLen) := hide (by simp [maxLen]; omega)
 have HM3 : Hid ((([] ++ M.take n : List IP).length + [(key, val)].length) * 16 <= 140737488355328) := hide (by simp; omega)
 have HM4 : Hid (([] ++ M.take n : List IP).length + [(key, val)].length <= maxLen) := hide (by simp [maxLen]; omega)
 have HM5 : Hid ((([] ++ M.take n ++ [(key, val)] : List IP).length + (M.drop n).length) * 16 <= 140737488355328) := hide (by simp; omega)
 have HM6 : Hid (([] ++ M.take n ++ [(key, val)] : List IP).length + (M.drop n).length <= maxLen) := hide (by simp [maxLen]; omega)
 have KS : Hid (∀ W', Kp w2 W' -> (W'.cell? ⟨w.heap.size, 0, none⟩ = some (.int .i64 key) /\ W'.cell? ⟨w.heap.size, 1, none⟩ = some (.int .i64 val) /\ Kp w2 W')) := hide fun W' h => ⟨h.cell p0', h.cell p1', h⟩
 have K0 := Kp.refl w2
 rcases HO2.out.2 with ⟨rfl, h0⟩ | ⟨g, c, cur, rfl, hg, hblk, hc, hc63, _, _⟩
 ·obtain rfl : M = [] := List.eq_nil_of_length_eq_zero h0
  obtain rfl : n = 0 := by simp at hble; omega
  have HT : Hid (∀ W, Kp w2 W -> RD W ePair (.slice none 0 0) (([] : List IP).take 0)) := hide (fun W h => RD.nil)
  have HD : Hid (∀ W, Kp w2 W -> RD W ePair (.slice none 0 0) (([] : List IP).drop 0)) := hide (fun W h => RD.nil)
  have hE0 : Hi w2.heap.size (.slice (some ⟨w2.heap.size, 0, none⟩) 0 0) := fun k hk => by simp [Value.ownBlock] at hk; omega
  have hE1 : Hi w2.heap.size (.slice (some ⟨w2.heap.size + 1, 0, none⟩) 0 0) := fun k hk => by simp [Value.ownBlock] at hk; omega
  clear p0' p1' h0 hble
  go_wp2_with fail
  go_region_held3 (fun w' => w'.cell? ⟨w.heap.size, 0, none⟩ = some (.int .i64 key) /\ w'.cell? ⟨w.heap.size, 1, none⟩ = some (.int .i64 val) /\ Kp w2 w')
   ((go_split_ands; refine KS.out _ ?_; (exact Kp.auto)))
   (first
    | ((with_reducible refine step_app (l := ([] : List IP)) (m := (([] : List IP).take 0)) row_pair (.slice (some ⟨w2.heap.size, 0, none⟩) 0 0) ?_ (.tmp 14) (.tmp 17) ?_ ?_ ?_ ?_ HM1.out HM2.out (Kp.size (w := w2) ?_) ?_); (with_reducible rfl); (with_reducible rfl); rfl; (focus ((repeat (first | (with_reducible assumption) | ((with_reducible refine OW.emptyE ?_ ?_) <;> (simp; done)) | (with_reducible first | apply OW.alloc | apply OW.drew | apply OW.drewN))); done)); (refine HT.out _ ?_; (go_split_ands; (exact Kp.auto))); (go_split_ands; (exact Kp.auto)); intro v3 w3 ho3 hg3 hat3; have hi3 := ho3.hi)
    | ((with_reducible refine step_app (l := ([] : List IP)) (m := (([] : List IP).take 0)) row_pair (.slice (some ⟨w2.heap.size + 1, 0, none⟩) 0 0) ?_ (.tmp 14) (.tmp 17) ?_ ?_ ?_ ?_ HM1.out HM2.out (Kp.size (w := w2) ?_) ?_); (with_reducible rfl); (with_reducible rfl); rfl; (focus ((repeat (first | (with_reducible assumption) | ((with_reducible refine OW.emptyE ?_ ?_) <;> (simp; done)) | (with_reducible first | apply OW.alloc | apply OW.drew | apply OW.drewN))); done)); (refine HT.out _ ?_; (go_split_ands; (exact Kp.auto))); (go_split_ands; (exact Kp.auto)); intro v3 w3 ho3 hg3 hat3; have hi3 := ho3.hi)
    | ((with_reducible refine step_app (l := ([] ++ ([] : List IP).take 0)) (m := [(key, val)]) row_pair v3 ?_ (.tmp 18) (.tmp 20) ?_ ?_ ?_ ?_ HM3.out HM4.out (Kp.size (w := w2) ?_) ?_); (with_reducible rfl); (with_reducible rfl); rfl; (exact OW.auto); (show RD _ _ (.slice (some ⟨_, 0, none⟩) 1 1) _; (first | (focus ((repeat (first | (with_reducible assumption) | exact RD.new1 _ rfl | (refine RD.new1e _ ?_ rfl; simp; done) | (with_reducible first | apply RD.alloc | apply RD.drew | apply RD.drewN) | ((with_reducible apply RD.belowR); (with_reducible assumption)))); done)) | ((repeat (first | (with_reducible first | apply RD.alloc | apply RD.drew | apply RD.drewN))); (with_reducible refine RD.grownR hg3 ?_ ?_); (focus (simp [Value.ownBlock]; done)); (focus ((repeat (first | (with_reducible assumption) | exact RD.new1 _ rfl | (refine RD.new1e _ ?_ rfl; simp; done) | (with_reducible first | apply RD.alloc | apply RD.drew | apply RD.drewN) | ((with_reducible apply RD.belowR); (with_reducible assumption)))); done))))); (go_split_ands; (exact Kp.auto)); intro v4 w4 ho4 hg4 hat4; have hi4 := ho4.hi)
    | ((with_reducible refine step_app (l := ([] ++ ([] : List IP).take 0 ++ [(key, val)])) (m := (([] : List IP).drop 0)) row_pair v4 ?_ (.tmp 21) (.tmp 24) ?_ ?_ ?_ ?_ HM5.out HM6.out (Kp.size (w := w2) ?_) ?_); (with_reducible rfl); (with_reducible rfl); rfl; (exact OW.auto); (refine HD.out _ ?_; (go_split_ands; (exact Kp.auto))); (go_split_ands; (exact Kp.auto)); intro v5 w5 ho5 hg5 hat5))
  all_goals
   go_wp2
   go_ret
   exact ⟨_, rfl, by rw [HE.out]; exact ho5.more KW.size, (KW.trans (by go_split_ands; (exact Kp.auto))).bel⟩
 ·obtain ⟨A2, hif⟩ : ∃ A2, (if c = n then some (⟨g, 0, none⟩ : Addr) else some ⟨g, n * 2, none⟩) = A2 := ⟨_, rfl⟩
  have HT : Hid (∀ W, Kp w2 W -> RD W ePair (.slice (some ⟨g, 0, none⟩) n c) (M.take n)) := hide (fun W h => by have := (HO2.out.rd.kp h).takeS (k := n) hble; exact this)
  have HD : Hid (∀ W, Kp w2 W -> RD W ePair (.slice A2 (M.length - n) (c - n)) (M.drop n)) := hide (fun W h => (HO2.out.rd.kp h).dropS hble rfl (by rw [Nat.zero_add]; exact hif))
  have b1 : (n : Int) <= (M.length : Int) := by omega
  have b2 : (n : Int) <= (c : Int) := by omega
  have hE0 : Hi w2.heap.size (.slice (some ⟨w2.heap.size, 0, none⟩) 0 0) := fun k hk => by simp [Value.ownBlock] at hk; omega
  have hE1 : Hi w2.heap.size (.slice (some ⟨w2.heap.size + 1, 0, none⟩) 0 0) := fun k hk => by simp [Value.ownBlock] at hk; omega
  clear hblk p0' p1'
  go_wp2_with fail
  go_region_held3 (fun w' => w'.cell? ⟨w.heap.size, 0, none⟩ = some (.int .i64 key) /\ w'.cell? ⟨w.heap.size, 1, none⟩ = some (.int .i64 val) /\ Kp w2 w')
   ((go_split_ands; refine KS.out _ ?_; (exact Kp.auto)))
   (first
    | ((with_reducible refine step_app (l := ([] : List IP)) (m := (M.take n)) row_pair (.slice (some ⟨w2.heap.size, 0, none⟩) 0 0) ?_ (.tmp 14) (.tmp 17) ?_ ?_ ?_ ?_ HM1.out HM2.out (Kp.size (w := w2) ?_) ?_); (with_reducible rfl); (with_reducible rfl); rfl; (focus ((repeat (first | (with_reducible assumption) | ((with_reducible refine OW.emptyE ?_ ?_) <;> (simp; done)) | (with_reducible first | apply OW.alloc | apply OW.drew | apply OW.drewN))); done)); (refine HT.out _ ?_; (go_split_ands; (exact Kp.auto))); (go_split_ands; (exact Kp.auto)); intro v3 w3 ho3 hg3 hat3; have hi3 := ho3.hi)
    | ((with_reducible refine step_app (l := ([] : List IP)) (m := (M.take n)) row_pair (.slice (some ⟨w2.heap.size + 1, 0, none⟩) 0 0) ?_ (.tmp 14) (.tmp 17) ?_ ?_ ?_ ?_ HM1.out HM2.out (Kp.size (w := w2) ?_) ?_); (with_reducible rfl); (with_reducible rfl); rfl; (focus ((repeat (first | (with_reducible assumption) | ((with_reducible refine OW.emptyE ?_ ?_) <;> (simp; done)) | (with_reducible first | apply OW.alloc | apply OW.drew | apply OW.drewN))); done)); (refine HT.out _ ?_; (go_split_ands; (exact Kp.auto))); (go_split_ands; (exact Kp.auto)); intro v3 w3 ho3 hg3 hat3; have hi3 := ho3.hi)
    | ((with_reducible refine step_app (l := ([] ++ M.take n)) (m := [(key, val)]) row_pair v3 ?_ (.tmp 18) (.tmp 20) ?_ ?_ ?_ ?_ HM3.out HM4.out (Kp.size (w := w2) ?_) ?_); (with_reducible rfl); (with_reducible rfl); rfl; (exact OW.auto); (show RD _ _ (.slice (some ⟨_, 0, none⟩) 1 1) _; (first | (focus ((repeat (first | (with_reducible assumption) | exact RD.new1 _ rfl | (refine RD.new1e _ ?_ rfl; simp; done) | (with_reducible first | apply RD.alloc | apply RD.drew | apply RD.drewN) | ((with_reducible apply RD.belowR); (with_reducible assumption)))); done)) | ((repeat (first | (with_reducible first | apply RD.alloc | apply RD.drew | apply RD.drewN))); (with_reducible refine RD.grownR hg3 ?_ ?_); (focus (simp [Value.ownBlock]; done)); (focus ((repeat (first | (with_reducible assumption) | exact RD.new1 _ rfl | (refine RD.new1e _ ?_ rfl; simp; done) | (with_reducible first | apply RD.alloc | apply RD.drew | apply RD.drewN) | ((with_reducible apply RD.belowR); (with_reducible assumption)))); done))))); (go_split_ands; (exact Kp.auto)); intro v4 w4 ho4 hg4 hat4; have hi4 := ho4.hi)
    | ((with_reducible refine step_app (l := ([] ++ M.take n ++ [(key, val)])) (m := (M.drop n)) row_pair v4 ?_ (.tmp 21) (.tmp 24) ?_ ?_ ?_ ?_ HM5.out HM6.out (Kp.size (w := w2) ?_) ?_); (with_reducible rfl); (with_reducible rfl); rfl; (exact OW.auto); (refine HD.out _ ?_; (go_split_ands; (exact Kp.auto))); (go_split_ands; (exact Kp.auto)); intro v5 w5 ho5 hg5 hat5))
  all_goals
   go_wp2
   go_ret
   exact ⟨_, rfl, by rw [HE.out]; exact ho5.more KW.size, (KW.trans (by go_split_ands; (exact Kp.auto))).bel⟩
end Go.Proofs.YtcljlnagpjilaaaGreatDoor
