/-
  hedgkeep.putAll, zipLives: what they answer. Conditions: the list reads as l (RD); the table of math/bits holds what it is laid with (DTb).
-/
import Derived.Test.YtfgbbmjnjppfnaaDoorZSplit
import Derived.Test.YtfgbbmjnjppfnaaDoorOkf
import Derived.Test.YtfgbbmjnjppfnaaDoorSame
namespace Go.Proofs.YtfgbbmjnjppfnaaDoor
open Go.ChangeShapes Go.WideShapes Go.ChangeAt Go.RowKit
set_option linter.unusedVariables false
set_option linter.unusedSimpArgs false

def pO (k : Int) : O3 := (1, k, 0)
theorem info_opZ : (Tryd.prog.info? 58).map (fun i => (i.zero, i.size, i.bytes)) = some (some (.agg #[.int .i64 0, .int .i64 0, .int .i64 0]), 3, 24) := by kernel_rfl
theorem row_opZ : Row Tryd.prog 37 58 eOp 24 := row_of info_opZ Tryd.underlying37 rfl rfl (by decide)
def PaRel (l : List Int) (w : World) (ov iv : Value) (wr : World) : Prop := ∃ k : Nat, k ≤ l.length ∧ iv = .int .i64 k ∧ OW wr w.heap.size 58 eOp ov ((l.take k).map pO) ∧ Kp w wr
set_option maxRecDepth 100000 in
set_option maxHeartbeats 1000000 in
theorem putAll_any (l : List Int) (v : Value) (w : World) (hr : RD w eInt v l) (hn : l.length ≤ 1000000) : Calls Tryd.prog 26 #[v] w (RetOW 58 eOp (l.map pO) w) := by
  obtain ⟨A, c, rfl, hc, hm⟩ := hr.shape
  have HR := hide hr
  clear hr
  go_enter Tryd.func26, Tryd.ntmps26
  go_wp2
  go_loopw [3, 8] (PaRel l w) (fun _ i _ => l.length - (intOf i).toNat)
  case atStart => exact ⟨0, by omega, rfl, OW.nil, Kp.refl _⟩
  case round =>
    obtain ⟨k, hk, rfl, ho, hkp⟩ := hrel
    have hi := ho.hi
    have HO := hide ho
    by_cases hlt : k < l.length
    · obtain ⟨b, o, rfl, _, x0⟩ := (HR.out.kp hkp).int hlt
      obtain ⟨y, hy⟩ : ∃ y, y = l[k] := ⟨_, rfl⟩
      rw [← hy] at x0
      have HN : Hid ((l.take k).map pO ++ [((1, y, 0) : O3)] = (l.take (k + 1)).map pO) := hide (by rw [List.take_succ_eq_append_getElem hlt, List.map_append, hy]; rfl)
      have HM1 : Hid ((((l.take k).map pO).length + [((1, y, 0) : O3)].length) * 24 ≤ 140737488355328) := hide (by simp; omega)
      have HM2 : Hid (((l.take k).map pO).length + [((1, y, 0) : O3)].length ≤ maxLen) := hide (by simp [maxLen]; omega)
      clear hy ho
      go_wp2_with (at_builtin; (with_reducible refine list_app (B := w.heap.size) (l := (l.take k).map pO) (m := [((1, y, 0) : O3)]) row_opZ u3 ?_ (.tmp 12) (.tmp 15) ?_ ?_ ?_ ?_ HM1.out HM2.out ?_ ?_); (with_reducible rfl); (with_reducible rfl); rfl; (exact HO.out.alloc _); (show RD _ _ (.slice (some ⟨_, 0, none⟩) 1 1) _; (focus ((repeat (first | (with_reducible assumption) | exact RD.new1 _ rfl | (refine RD.new1e _ ?_ rfl; simp; done) | (with_reducible apply RD.alloc) | (with_reducible apply RD.drew) | (with_reducible apply RD.drewN) | ((with_reducible apply RD.belowR); (with_reducible assumption)))); done))); (have := hkp.size; simp; omega); intro v3 w3 ho3 hg3 hat3)
      go_roundw
      case rel => exact ⟨k + 1, by omega, by go_num, by rw [← HN.out]; exact ho3, Kp.app hg3 hkp.alloc hi⟩
      case measure => simp [intOf]; omega
    · have hkl : Hid ((l.take k).map pO = l.map pO) := hide (by rw [List.take_of_length_le (by omega)])
      clear ho
      go_wp2
      go_ret
      exact ⟨_, rfl, by rw [← hkl.out]; exact HO.out, hkp.bel⟩

theorem zipLives_run : zipRun [(1, 0, 0), (1, 5, 0)] = ([(0, 0), (5, 1)], [⟨0, 0, 0, false⟩, ⟨0, 0, 0, false⟩], 0) := by decide +kernel
theorem zipLives_split : splitZ [(0, 0), (5, 1)] 5 = ([(0, 0)], [(5, 0)], 0) := by decide +kernel
theorem zipLives_ra : readZ [(0, 0)] = (.node 0 .nil .nil, 0) := by kernel_rfl
theorem zipLives_rb : readZ [(5, 0)] = (.node 5 .nil .nil, 0) := by kernel_rfl
theorem zipLives_ov : ov (zk 0) (zk 5) = true := by decide +kernel
theorem zipLives_merge : mergeZ [(0, 0)] [(5, 0)] = ([(0, 0), (5, 1)], 0) := by
  rw [mergeZ, if_neg (by decide +kernel), if_neg (by decide +kernel), zipLives_ra, zipLives_rb, if_neg (by decide), if_neg (by decide)]
  simp only [mapZ]
  rw [zipM_node, if_pos zipLives_ov, zipM]
  rfl
theorem okL_ok3Z : okL [0, 0, 0] = true := rfl
set_option maxRecDepth 100000 in
set_option maxHeartbeats 4000000 in
theorem zipLives_any (w : World) (hdb : DTb w) : Calls Tryd.prog 21 #[] w (Ret (.bool true) w) := by
  have H0 := hide (fun W v h => putAll_any [0, 5] v W h (by simp))
  have H1 := hide (fun W v h hd => zipRun_any [(1, 0, 0), (1, 5, 0)] v W h hd)
  have H2 := hide (fun W v h hd => zipSplit_any [(0, 0), (5, 1)] 5 v W h hd)
  have H3 := hide (fun W v u h1 h2 hd => zipMerge_any [(0, 0)] [(5, 0)] v u W h1 h2 hd)
  rw [show [0, 5].map pO = [((1, 0, 0) : O3), (1, 5, 0)] from rfl] at H0
  rw [zipLives_run] at H1
  rw [zipLives_split] at H2
  rw [zipLives_merge] at H3
  have HDB := hide hdb
  clear hdb
  go_enter Tryd.func21, Tryd.ntmps21
  go_wp2_with fail
  refine (H0.out _ _ (RD.block (l := [0, 5]) (heap_alloc_new w _) rfl (by simp [maxLen]))).mono ?_
  rintro e w1 ⟨v1, rfl, ho1, hb1⟩
  have kk1 : Kp w w1 := (Kp.refl w).alloc.trans (Kp.of hb1)
  have HR1 := hide ho1.rd
  clear ho1 hb1
  go_wp2_with fail
  with_reducible refine (H1.out _ _ HR1.out (HDB.out.kp kk1)).mono ?_
  rintro e w2 ⟨v2, u2, rfl, hr2, hu2, hb2⟩
  have kk2 : Kp w1 w2 := Kp.of hb2
  have HR2 := hide hr2
  obtain ⟨A2, c2, rfl, _, _⟩ := hu2.shape
  clear hr2 hu2 hb2
  go_wp2_with fail
  with_reducible refine (H2.out _ _ HR2.out (HDB.out.kp (kk1.trans kk2))).mono ?_
  rintro e w3 ⟨v3, u3, rfl, hr3, hu3, hb3⟩
  have kk3 : Kp w2 w3 := Kp.of hb3
  have HR3 := hide hr3
  have HU3 := hide hu3
  clear hr3 hu3 hb3
  go_wp2_with fail
  with_reducible refine (H3.out _ _ _ HR3.out HU3.out (HDB.out.kp (kk1.trans (kk2.trans kk3)))).mono ?_
  rintro e w4 ⟨v4, rfl, hr4, hb4⟩
  have kk4 : Kp w3 w4 := Kp.of hb4
  have HR4 := hide hr4
  clear hr4 hb4
  go_wp2_with fail
  refine (ok_any [0, 0, 0] _ _ (RD.block (l := [0, 0, 0]) (heap_alloc_new w4 _) rfl (by simp [maxLen]))).mono ?_
  rintro e w5 ⟨rfl, hw5⟩
  have kk5 : Kp w4 w5 := by rw [← hw5]; exact (Kp.refl w4).alloc
  clear hw5
  have hok := okL_ok3Z
  go_wp2_with fail
  refine (eqSpots_to _ _ true _ _ _ ((HR2.out.kp (kk3.trans (kk4.trans kk5))).alloc _) (RD.block (l := [(0, 0), (5, 1)]) (heap_alloc_new w5 _) rfl (by simp [maxLen])) (by decide)).mono ?_
  rintro e w6 ⟨rfl, hb6⟩
  have kk6 : Kp w5 w6 := (Kp.refl w5).alloc.trans (Kp.of hb6)
  clear hb6
  go_wp2_with fail
  refine (eqSpots_to _ _ true _ _ _ ((HR3.out.kp (kk4.trans (kk5.trans kk6))).alloc _) (RD.block (l := [(0, 0)]) (heap_alloc_new w6 _) rfl (by simp [maxLen])) (by decide)).mono ?_
  rintro e w7 ⟨rfl, hb7⟩
  have kk7 : Kp w6 w7 := (Kp.refl w6).alloc.trans (Kp.of hb7)
  clear hb7
  go_wp2_with fail
  refine (eqSpots_to _ _ true _ _ _ ((HU3.out.kp (kk4.trans (kk5.trans (kk6.trans kk7)))).alloc _) (RD.block (l := [(5, 0)]) (heap_alloc_new w7 _) rfl (by simp [maxLen])) (by decide)).mono ?_
  rintro e w8 ⟨rfl, hb8⟩
  have kk8 : Kp w7 w8 := (Kp.refl w7).alloc.trans (Kp.of hb8)
  clear hb8
  go_wp2_with fail
  refine (eqSpots_to _ _ true _ _ _ (HR4.out.kp (kk5.trans (kk6.trans (kk7.trans kk8)))) (HR2.out.kp (kk3.trans (kk4.trans (kk5.trans (kk6.trans (kk7.trans kk8)))))) (by decide)).mono ?_
  rintro e w9 ⟨rfl, hb9⟩
  have kk9 : Kp w8 w9 := Kp.of hb9
  clear hb9
  go_wp2
  go_ret
  exact ⟨rfl, (kk1.trans (kk2.trans (kk3.trans (kk4.trans (kk5.trans (kk6.trans (kk7.trans (kk8.trans kk9)))))))).bel⟩
end Go.Proofs.YtfgbbmjnjppfnaaDoor
