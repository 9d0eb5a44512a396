/-
  hedgkeep.putAll, zipLives: what they answer. Conditions: the list reads as l (RD); the table of math/bits holds what it is laid with (DTb).
  hedgkeep.ZipOne: the walk: it answers true. Conditions: the ops read as ops (RD); the table of math/bits holds what it is laid with (DTb).
  hedgkeep.ZipOne: THE STATEMENT: for every input it answers true. Conditions: the table of math/bits holds what the program's text lays (tied on the card).
-/
import Derived.Test.YtfgbbmjnjppfnaaDoorZipOneM18
import Derived.Test.YtfgbbmjnjppfnaaDoorZipOneM14
import Derived.Test.YtfgbbmjnjppfnaaDoorZipOneM2
import Derived.Test.YtfgbbmjnjppfnaaDoorCards
import Derived.Test.YtfgbbmjnjppfnaaDoorTie
import Derived.SevenTiedAt

namespace Go.Proofs.YtfgbbmjnjppfnaaDoor
open Go.ChangeShapes Go.WideShapes Go.ChangeAt Go.RowKit
set_option linter.unusedVariables false
set_option linter.unusedSimpArgs false

def pO (k : Int) : O3 := (1, k, 0)
theorem info_opZ : (Tryd.prog.info? 58).map (fun i => (i.zero, i.size, i.bytes)) = some (some (.agg #[.int .i64 0, .int .i64 0, .int .i64 0]), 3, 24) := by kernel_rfl
theorem row_opZ : Row Tryd.prog 37 58 eOp 24 := row_of info_opZ Tryd.underlying37 rfl rfl (by decide)
def PaRel (l : List Int) (w : World) (ov iv : Value) (wr : World) : Prop := ∃ k : Nat, k ≤ l.length ∧ iv = .int .i64 k ∧ OW wr w.heap.size 58 eOp ov ((l.take k).map pO) ∧ Kp w wr
set_option maxRecDepth 100000 in
set_option maxHeartbeats 1000000 in
theorem putAll_any (l : List Int) (v : Value) (w : World) (hr : RD w eInt v l) (hn : l.length ≤ 1000000) : Calls Tryd.prog 26 #[v] w (RetOW 58 eOp (l.map pO) w) := by
  obtain ⟨A, c, rfl, hc, hm⟩ := hr.shape
  have HR := hide hr
  clear hr
  go_enter Tryd.func26, Tryd.ntmps26
  go_wp2
  go_loopw [3, 8] (PaRel l w) (fun _ i _ => l.length - (intOf i).toNat)
  case atStart => exact ⟨0, by omega, rfl, OW.nil, Kp.refl _⟩
  case round =>
    obtain ⟨k, hk, rfl, ho, hkp⟩ := hrel
    have hi := ho.hi
    have HO := hide ho
    by_cases hlt : k < l.length
    · obtain ⟨b, o, rfl, _, x0⟩ := (HR.out.kp hkp).int hlt
      obtain ⟨y, hy⟩ : ∃ y, y = l[k] := ⟨_, rfl⟩
      rw [← hy] at x0
      have HN : Hid ((l.take k).map pO ++ [((1, y, 0) : O3)] = (l.take (k + 1)).map pO) := hide (by rw [List.take_succ_eq_append_getElem hlt, List.map_append, hy]; rfl)
      have HM1 : Hid ((((l.take k).map pO).length + [((1, y, 0) : O3)].length) * 24 ≤ 140737488355328) := hide (by simp; omega)
      have HM2 : Hid (((l.take k).map pO).length + [((1, y, 0) : O3)].length ≤ maxLen) := hide (by simp [maxLen]; omega)
      clear hy ho
      go_wp2_with (at_builtin; (with_reducible refine list_app (B := w.heap.size) (l := (l.take k).map pO) (m := [((1, y, 0) : O3)]) row_opZ u3 ?_ (.tmp 12) (.tmp 15) ?_ ?_ ?_ ?_ HM1.out HM2.out ?_ ?_); (with_reducible rfl); (with_reducible rfl); rfl; (exact HO.out.alloc _); (show RD _ _ (.slice (some ⟨_, 0, none⟩) 1 1) _; (focus ((repeat (first | (with_reducible assumption) | exact RD.new1 _ rfl | (refine RD.new1e _ ?_ rfl; simp; done) | (with_reducible apply RD.alloc) | (with_reducible apply RD.drew) | (with_reducible apply RD.drewN) | ((with_reducible apply RD.belowR); (with_reducible assumption)))); done))); (have := hkp.size; simp; omega); intro v3 w3 ho3 hg3 hat3)
      go_roundw
      case rel => exact ⟨k + 1, by omega, by go_num, by rw [← HN.out]; exact ho3, Kp.app hg3 hkp.alloc hi⟩
      case measure => simp [intOf]; omega
    · have hkl : Hid ((l.take k).map pO = l.map pO) := hide (by rw [List.take_of_length_le (by omega)])
      clear ho
      go_wp2
      go_ret
      exact ⟨_, rfl, by rw [← hkl.out]; exact HO.out, hkp.bel⟩

theorem zipLives_run : zipRun [(1, 0, 0), (1, 5, 0)] = ([(0, 0), (5, 1)], [⟨0, 0, 0, false⟩, ⟨0, 0, 0, false⟩], 0) := by decide +kernel
theorem zipLives_split : splitZ [(0, 0), (5, 1)] 5 = ([(0, 0)], [(5, 0)], 0) := by decide +kernel
theorem zipLives_ra : readZ [(0, 0)] = (.node 0 .nil .nil, 0) := by kernel_rfl
theorem zipLives_rb : readZ [(5, 0)] = (.node 5 .nil .nil, 0) := by kernel_rfl
theorem zipLives_ov : ov (zk 0) (zk 5) = true := by decide +kernel
theorem zipLives_merge : mergeZ [(0, 0)] [(5, 0)] = ([(0, 0), (5, 1)], 0) := by
  rw [mergeZ, if_neg (by decide +kernel), if_neg (by decide +kernel), zipLives_ra, zipLives_rb, if_neg (by decide), if_neg (by decide)]
  simp only [mapZ]
  rw [zipM_node, if_pos zipLives_ov, zipM]
  rfl
theorem okL_ok3Z : okL [0, 0, 0] = true := rfl
set_option maxRecDepth 100000 in
set_option maxHeartbeats 4000000 in
theorem zipLives_any (w : World) (hdb : DTb w) : Calls Tryd.prog 21 #[] w (Ret (.bool true) w) := by
  have H0 := hide (fun W v h => putAll_any [0, 5] v W h (by simp))
  have H1 := hide (fun W v h hd => zipRun_any [(1, 0, 0), (1, 5, 0)] v W h hd)
  have H2 := hide (fun W v h hd => zipSplit_any [(0, 0), (5, 1)] 5 v W h hd)
  have H3 := hide (fun W v u h1 h2 hd => zipMerge_any [(0, 0)] [(5, 0)] v u W h1 h2 hd)
  rw [show [0, 5].map pO = [((1, 0, 0) : O3), (1, 5, 0)] from rfl] at H0
  rw [zipLives_run] at H1
  rw [zipLives_split] at H2
  rw [zipLives_merge] at H3
  have HDB := hide hdb
  clear hdb
  go_enter Tryd.func21, Tryd.ntmps21
  go_wp2_with fail
  refine (H0.out _ _ (RD.block (l := [0, 5]) (heap_alloc_new w _) rfl (by simp [maxLen]))).mono ?_
  rintro e w1 ⟨v1, rfl, ho1, hb1⟩
  have kk1 : Kp w w1 := (Kp.refl w).alloc.trans (Kp.of hb1)
  have HR1 := hide ho1.rd
  clear ho1 hb1
  go_wp2_with fail
  with_reducible refine (H1.out _ _ HR1.out (HDB.out.kp kk1)).mono ?_
  rintro e w2 ⟨v2, u2, rfl, hr2, hu2, hb2⟩
  have kk2 : Kp w1 w2 := Kp.of hb2
  have HR2 := hide hr2
  obtain ⟨A2, c2, rfl, _, _⟩ := hu2.shape
  clear hr2 hu2 hb2
  go_wp2_with fail
  with_reducible refine (H2.out _ _ HR2.out (HDB.out.kp (kk1.trans kk2))).mono ?_
  rintro e w3 ⟨v3, u3, rfl, hr3, hu3, hb3⟩
  have kk3 : Kp w2 w3 := Kp.of hb3
  have HR3 := hide hr3
  have HU3 := hide hu3
  clear hr3 hu3 hb3
  go_wp2_with fail
  with_reducible refine (H3.out _ _ _ HR3.out HU3.out (HDB.out.kp (kk1.trans (kk2.trans kk3)))).mono ?_
  rintro e w4 ⟨v4, rfl, hr4, hb4⟩
  have kk4 : Kp w3 w4 := Kp.of hb4
  have HR4 := hide hr4
  clear hr4 hb4
  go_wp2_with fail
  refine (ok_any [0, 0, 0] _ _ (RD.block (l := [0, 0, 0]) (heap_alloc_new w4 _) rfl (by simp [maxLen]))).mono ?_
  rintro e w5 ⟨rfl, hw5⟩
  have kk5 : Kp w4 w5 := by rw [← hw5]; exact (Kp.refl w4).alloc
  clear hw5
  have hok := okL_ok3Z
  go_wp2_with fail
  refine (eqSpots_to _ _ true _ _ _ ((HR2.out.kp (kk3.trans (kk4.trans kk5))).alloc _) (RD.block (l := [(0, 0), (5, 1)]) (heap_alloc_new w5 _) rfl (by simp [maxLen])) (by decide)).mono ?_
  rintro e w6 ⟨rfl, hb6⟩
  have kk6 : Kp w5 w6 := (Kp.refl w5).alloc.trans (Kp.of hb6)
  clear hb6
  go_wp2_with fail
  refine (eqSpots_to _ _ true _ _ _ ((HR3.out.kp (kk4.trans (kk5.trans kk6))).alloc _) (RD.block (l := [(0, 0)]) (heap_alloc_new w6 _) rfl (by simp [maxLen])) (by decide)).mono ?_
  rintro e w7 ⟨rfl, hb7⟩
  have kk7 : Kp w6 w7 := (Kp.refl w6).alloc.trans (Kp.of hb7)
  clear hb7
  go_wp2_with fail
  refine (eqSpots_to _ _ true _ _ _ ((HU3.out.kp (kk4.trans (kk5.trans (kk6.trans kk7)))).alloc _) (RD.block (l := [(5, 0)]) (heap_alloc_new w7 _) rfl (by simp [maxLen])) (by decide)).mono ?_
  rintro e w8 ⟨rfl, hb8⟩
  have kk8 : Kp w7 w8 := (Kp.refl w7).alloc.trans (Kp.of hb8)
  clear hb8
  go_wp2_with fail
  refine (eqSpots_to _ _ true _ _ _ (HR4.out.kp (kk5.trans (kk6.trans (kk7.trans kk8)))) (HR2.out.kp (kk3.trans (kk4.trans (kk5.trans (kk6.trans (kk7.trans kk8)))))) (by decide)).mono ?_
  rintro e w9 ⟨rfl, hb9⟩
  have kk9 : Kp w8 w9 := Kp.of hb9
  clear hb9
  go_wp2
  go_ret
  exact ⟨rfl, (kk1.trans (kk2.trans (kk3.trans (kk4.trans (kk5.trans (kk6.trans (kk7.trans (kk8.trans kk9)))))))).bel⟩
end Go.Proofs.YtfgbbmjnjppfnaaDoor
namespace Go.Proofs.YtfgbbmjnjppfnaaDoor
open Go.ChangeShapes Go.WideShapes Go.ChangeAt Go.RowKit
set_option linter.unusedVariables false
set_option linter.unusedSimpArgs false

def ZoRel (s : List IP) (w : World) (ov iv : Value) (wr : World) : Prop := ∃ k : Nat, k ≤ s.length ∧ iv = .int .i64 k ∧ OW wr w.heap.size 62 ePair ov ((s.take k).map fun x => (x.1, hgtF x.1)) ∧ Kp w wr
def CK (w : World) (b : Nat) (x : Value) (W : World) : Prop := W.cell? ⟨b, 0, none⟩ = some x ∧ Kp w W
theorem CK.kp {w W W' : World} {b : Nat} {x : Value} (h : CK w b x W) (k : Kp W W') : CK w b x W' := ⟨k.cell h.1, h.2.trans k⟩
theorem CK.app {w W W' : World} {b : Nat} {x v : Value} (hg : W.grownBy W' v.ownBlock) (h : CK w b x W) (hi : Hi w.heap.size v) (hne : v.ownBlock ≠ some b) : CK w b x W' := ⟨hg.cell h.1 (fun e => hne e.symm), Kp.app hg h.2 hi⟩
set_option maxRecDepth 100000 in
set_option maxHeartbeats 8000000 in
theorem zipOne_walk (ops : List O3) (v : Value) (w : World) (hr : RD w eOp v ops) (hdb : DTb w) : Calls Tryd.prog 7 #[v] w (Ret (.bool true) w) := by
  obtain ⟨A, c, rfl, hc, hm⟩ := hr.shape
  have HR := hide hr
  have HDB := hide hdb
  have HRU := hide (fun W v h hd => zipRun_any ops v W h hd)
  clear hr hdb
  by_cases hlen : ops.length > 300
  · have hz : zipRun ops = ([], [], 2) := by rw [zipRun, if_pos hlen]
    rw [hz] at HRU
    clear hz hlen
    go_enter Tryd.func7, Tryd.ntmps7
    go_wp2_with fail
    with_reducible refine (HRU.out _ _ HR.out HDB.out).mono ?_
    rintro e w1 ⟨v1, u1, rfl, hr1, hu1, hb1⟩
    have kk1 : Kp w w1 := Kp.of hb1
    obtain ⟨A1, c1, rfl, _, _⟩ := hr1.shape
    clear hr1 hu1 hb1
    go_wp2_with fail
    with_reducible refine (zipLives_any _ (HDB.out.kp kk1)).mono ?_
    rintro e w2 ⟨rfl, hb2⟩
    have kk2 := Kp.of hb2
    clear hb2
    go_wp2_with fail
    with_reducible refine (zipLives_any _ (HDB.out.kp (kk1.trans kk2))).mono ?_
    rintro e w3 ⟨rfl, hb3⟩
    have kk3 := Kp.of hb3
    clear hb3
    go_wp2
    go_ret
    exact ⟨by simp, (kk1.trans (kk2.trans kk3)).bel⟩
  · have hz : zipRun ops = ((zrT (opsA ops)).spotsBy Prod.fst 0, (runL ops).2, 0) := by rw [zipRun, if_neg hlen]
    have hh := zip_heap ops
    have hsl : ((zrT (opsA ops)).spotsBy Prod.fst 0).length ≤ 300 := by
      rw [MT.spotsBy_len]
      have h1 := zrT_size (opsA ops) (opsA ops).length (Nat.le_refl _)
      rw [List.take_length] at h1
      have h2 : (opsA ops).length ≤ ops.length := by rw [opsA, List.length_zip]; omega
      omega
    obtain ⟨s, hs⟩ : ∃ s, s = (zrT (opsA ops)).spotsBy Prod.fst 0 := ⟨_, rfl⟩
    obtain ⟨AN, hA⟩ : ∃ AN, AN = (runL ops).2 := ⟨_, rfl⟩
    rw [hz, ← hs, ← hA] at HRU
    rw [← hs] at hh hsl
    have HHO := hide (fun W v h => heapOf_any (s.map fun x => (x.1, hgtF x.1)) v W h)
    rw [hh] at HHO
    clear hz hh hs hA hlen
    go_enter Tryd.func7, Tryd.ntmps7
    go_wp2_with fail
    with_reducible refine (HRU.out _ _ HR.out HDB.out).mono ?_
    rintro e w1 ⟨v1, u1, rfl, hr1, hu1, hb1⟩
    have kk1 : Kp w w1 := Kp.of hb1
    obtain ⟨A1, c1, rfl, _, _⟩ := hr1.shape
    have HR1 := hide hr1
    clear hr1 hu1 hb1
    go_wp2_with fail
    with_reducible refine (zipLives_any _ (HDB.out.kp kk1)).mono ?_
    rintro e w2 ⟨rfl, hb2⟩
    have kk2 := Kp.of hb2
    clear hb2
    have K2 := kk1.trans kk2
    have HR2 := hide (HR1.out.kp kk2)
    clear kk1 kk2
    go_wp2
    go_loopw [6, 31] (ZoRel s w2) (fun _ i _ => s.length - (intOf i).toNat)
    case atStart => exact ⟨0, by omega, rfl, OW.nil, Kp.refl _⟩
    case round =>
      obtain ⟨k, hk, rfl, ho, hkp⟩ := hrel
      have hi := ho.hi
      have HO := hide ho
      obtain ⟨A6, N6, c6, rfl⟩ := ho.rd.slice
      by_cases hlt : k < s.length
      · obtain ⟨b, o, rfl, _, x0, x1⟩ := (HR2.out.kp hkp).pair hlt
        obtain ⟨y, hy⟩ : ∃ y, y = s[k].1 := ⟨_, rfl⟩
        obtain ⟨ht, hht⟩ : ∃ ht, ht = hgtF y := ⟨_, rfl⟩
        rw [← hy] at x0
        have HHG := hide (fun W h => height_any y W h)
        rw [← hht] at HHG
        obtain ⟨L, hL⟩ : ∃ L, L = (s.take k).map (fun x => ((x.1, hgtF x.1) : IP)) := ⟨_, rfl⟩
        have HN : Hid (L ++ [((y, ht) : IP)] = (s.take (k + 1)).map (fun x => ((x.1, hgtF x.1) : IP))) := hide (by rw [List.take_succ_eq_append_getElem hlt, List.map_append, hL, hht, hy]; rfl)
        have hLl : L.length ≤ 300 := by rw [hL]; simp; omega
        rw [← hL] at HO
        have HM1 : Hid ((L.length + [((y, ht) : IP)].length) * 16 ≤ 140737488355328) := hide (by simp; omega)
        have HM2 : Hid (L.length + [((y, ht) : IP)].length ≤ maxLen) := hide (by simp [maxLen]; omega)
        have K11 := Kp.refl (wr.alloc (.cells #[.int .i64 y, .int .i64 s[k].2] 51))
        have K21 : Kp w2 (wr.alloc (.cells #[.int .i64 y, .int .i64 s[k].2] 51)) := hkp.alloc
        have HNE : Hid ((Value.slice A6 N6 c6).ownBlock ≠ some wr.heap.size) := hide (fun h => by have := HO.out.lt _ h; omega)
        have C11 : CK w2 wr.heap.size (.int .i64 y) (wr.alloc (.cells #[.int .i64 y, .int .i64 s[k].2] 51)) := ⟨by simp [go_sem], K21⟩
        have D11 := C11.1
        have hoL : OW (wr.alloc (.cells #[.int .i64 y, .int .i64 s[k].2] 51)) w2.heap.size 62 ePair (.slice A6 N6 c6) L := HO.out.alloc _
        clear ho hy hht hL
        go_wp2_with fail
        go_region_held3 (fun w' => w'.cell? ⟨wr.heap.size, 0, none⟩ = some (.int .i64 y) ∧ Kp w2 w')
          ((go_split_ands; refine (show CK w2 wr.heap.size (.int .i64 y) _ from ?_); (first | (with_reducible assumption) | exact CK.kp C11 (by (focus ((repeat (first | (with_reducible assumption) | (with_reducible exact Kp.refl _) | (with_reducible apply Kp.drew) | (with_reducible apply Kp.drewN) | ((with_reducible apply Kp.setR); (focus (first | (with_reducible assumption) | (simp; done) | (simp; omega)))) | (with_reducible apply Kp.alloc) | ((with_reducible apply Kp.call); (with_reducible assumption)) | ((with_reducible apply Kp.app); (with_reducible assumption)))); done))) | exact CK.kp ck7 (by (focus ((repeat (first | (with_reducible assumption) | (with_reducible exact Kp.refl _) | (with_reducible apply Kp.drew) | (with_reducible apply Kp.drewN) | ((with_reducible apply Kp.setR); (focus (first | (with_reducible assumption) | (simp; done) | (simp; omega)))) | (with_reducible apply Kp.alloc) | ((with_reducible apply Kp.call); (with_reducible assumption)) | ((with_reducible apply Kp.app); (with_reducible assumption)))); done))))))
          (first
            | (go_at_call_of 28 (Value.int .i64 y); (with_reducible refine (HHG.out _ (HDB.out.kp (K2.trans ?_))).mono ?_); (go_split_ands; (focus ((repeat (first | (with_reducible assumption) | (with_reducible exact Kp.refl _) | (with_reducible apply Kp.drew) | (with_reducible apply Kp.drewN) | ((with_reducible apply Kp.setR); (focus (first | (with_reducible assumption) | (simp; done) | (simp; omega)))) | (with_reducible apply Kp.alloc) | ((with_reducible apply Kp.call); (with_reducible assumption)) | ((with_reducible apply Kp.app); (with_reducible assumption)))); done))); rintro e w5 ⟨rfl, rfl⟩)
            | ((with_reducible refine step_app (l := L) (m := [((y, ht) : IP)]) row_pair (.slice A6 N6 c6) ?_ (.tmp 35) (.tmp 42) ?_ ?_ ?_ ?_ HM1.out HM2.out (Kp.size (w := w2) ?_) ?_); (with_reducible rfl); (with_reducible rfl); rfl; (focus ((repeat (first | (with_reducible assumption) | (with_reducible apply OW.alloc) | (with_reducible apply OW.drew) | (with_reducible apply OW.drewN) | ((with_reducible apply OW.setCellR); (with_reducible assumption)) | ((with_reducible apply OW.belowR); (with_reducible assumption)) | ((with_reducible apply OW.keptR); (with_reducible assumption); (with_reducible assumption)))); done)); (show RD _ _ (.slice (some ⟨_, 0, none⟩) 1 1) _; (focus ((repeat (first | (with_reducible assumption) | exact RD.new1 _ rfl | (refine RD.new1e _ ?_ rfl; simp; done) | (with_reducible apply RD.alloc) | (with_reducible apply RD.drew) | (with_reducible apply RD.drewN) | ((with_reducible apply RD.belowR); (with_reducible assumption)))); done))); (go_split_ands; (focus ((repeat (first | (with_reducible assumption) | (with_reducible exact Kp.refl _) | (with_reducible apply Kp.drew) | (with_reducible apply Kp.drewN) | ((with_reducible apply Kp.setR); (focus (first | (with_reducible assumption) | (simp; done) | (simp; omega)))) | (with_reducible apply Kp.alloc) | ((with_reducible apply Kp.call); (with_reducible assumption)) | ((with_reducible apply Kp.app); (with_reducible assumption)))); done))); intro v7 w7 ho7 hg7 hat7; have ck7 : CK w2 wr.heap.size (.int .i64 y) w7 := CK.app hg7 (CK.kp C11 (by (focus ((repeat (first | (with_reducible assumption) | (with_reducible exact Kp.refl _) | (with_reducible apply Kp.drew) | (with_reducible apply Kp.drewN) | ((with_reducible apply Kp.setR); (focus (first | (with_reducible assumption) | (simp; done) | (simp; omega)))) | (with_reducible apply Kp.alloc) | ((with_reducible apply Kp.call); (with_reducible assumption)) | ((with_reducible apply Kp.app); (with_reducible assumption)))); done)))) hi HNE.out; have kp7 := ck7.2; have kr7 := Kp.refl w7))
        all_goals
          go_wp2
          go_roundw
          case rel => exact ⟨k + 1, by omega, by go_num, by rw [← HN.out]; exact ho7, (by (focus ((repeat (first | (with_reducible assumption) | (with_reducible exact Kp.refl _) | (with_reducible apply Kp.drew) | (with_reducible apply Kp.drewN) | ((with_reducible apply Kp.setR); (focus (first | (with_reducible assumption) | (simp; done) | (simp; omega)))) | (with_reducible apply Kp.alloc) | ((with_reducible apply Kp.call); (with_reducible assumption)) | ((with_reducible apply Kp.app); (with_reducible assumption)))); done)))⟩
          case measure => simp [intOf]; omega
      · have HT : Hid (RD wr ePair (.slice A6 N6 c6) (s.map fun x => (x.1, hgtF x.1))) := hide (by have := ho.rd; rwa [List.take_of_length_le (by omega)] at this)
        clear ho
        go_wp2_with fail
        with_reducible refine (HHO.out _ _ HT.out).mono ?_
        rintro e w3 ⟨v3, rfl, hr3, hb3⟩
        have kk3 : Kp wr w3 := Kp.of hb3
        have HR3 := hide hr3
        clear hr3 hb3
        go_wp2_with fail
        with_reducible refine (eqSpots_to s s true _ _ _ (HR2.out.kp (hkp.trans kk3)) HR3.out (by simp)).mono ?_
        rintro e w4 ⟨rfl, hb4⟩
        have kk4 : Kp w3 w4 := Kp.of hb4
        go_wp2
        go_ret
        exact ⟨by simp, (K2.trans (hkp.trans (kk3.trans kk4))).bel⟩
end Go.Proofs.YtfgbbmjnjppfnaaDoor
namespace Go.Proofs.YtfgbbmjnjppfnaaDoor
open Go.ChangeShapes Go.WideShapes Go.ChangeAt Go.RowKit Go.Deep
set_option linter.unusedVariables false
set_option linter.unusedSimpArgs false

set_option maxRecDepth 100000 in
theorem zipOne_lifted (os : Os) (started : os.Started) (H : Type) (enc : TypeId × Value → H) :
    ReturnsInHanded {} Tryd.checked os 7 .any (fun w args => (Rows.zipOneSpec.pre enc Tryd.prog Tryd.f7 Rows.zipOneRow.domain false w args ∧ laidMetH Tryd.prog ZLaid w) ∧ sizedMet enc Tryd.prog Tryd.f7 (OpenSpec.ofChange Rows.zipOneSpec) false w args) (Rows.zipOneSpec.post enc Tryd.prog Tryd.f7 false true false false) := by
  refine returnsInHanded_of_change_and (C := Tryd.checked) (X := fun w _ => laidMetH Tryd.prog ZLaid w) (fun _ _ _ hh h => h.of_heap hh) own started (by kernel_rfl) Tryd.func7
    (ChangeSpec.witness_at (enc := enc) (C := Tryd.checked) (os := os) (X := fun w _ => laidMetH Tryd.prog ZLaid w) false (laidWorldZ os) #[.slice none 0 0] 8 rfl (by kernel_rfl) (by kernel_rfl) (by kernel_rfl) (by kernel_rfl) (by kernel_rfl) (laidZ_met os _)) ?_
  intro W base args ds gs before hval0 hW hcnd _ hL _
  have hval : ∀ (j : Nat) t v, Tryd.f7.params[j]? = some t → args[j]? = some v → Value.okWide Tryd.prog W .any base t v := hval0
  have hW' := hW
  obtain ⟨p, q, hA0, hV, rfl, hfz, hnd⟩ := hW
  have hA : DataW.TrodAll enc Tryd.prog W 0 (fun _ => true) true Tryd.f7.params.toList args.toList ds p := hA0
  rw [Tryd.params7] at hA hval
  obtain ⟨v0, vs0, d0, ds0, p0, q0, hargs, rfl, rfl, h0, r0⟩ := trodAll_cons hA
  obtain ⟨rfl, rfl, rfl⟩ := trodAll_nil r0
  obtain rfl : args = #[v0] := by cases args; simp_all
  obtain ⟨rfl, rfl⟩ := trodVars_none hV
  obtain ⟨a0, n0, c0, rfl⟩ := okWide_slice Tryd.underlying37 (hval 0 37 v0 rfl rfl)
  have lt0 : ∀ x ∈ p0, x.block < W.heap.size := by obtain ⟨m, hm⟩ := h0; exact DataW.trod_lt m _ _ _ hm
  obtain ⟨l0, w0⟩ := arg_ops h0
  clear hA0 hval0
  refine (zipOne_walk l0 _ W w0 (db_of_laid hL)).mono fun e W' ⟨he, bel⟩ => ?_
  subst he
  exact ⟨_, rfl, _, _, _, [], _, [], hW', trodAll_mk1 (shut_bool Tryd.underlying4 _), (trodAll_cons_mk (Below.trod laidOut (by kernel_rfl) (of_decide_eq_true (by kernel_rfl)) h0 bel lt0) trodAll_mk0), rfl, bel.frame _, fun h => by cases h⟩

set_option maxRecDepth 100000 in
set_option maxHeartbeats 8000000 in
theorem zipOne_closed : joinedFacts Tryd.checked.prog 7 Tryd.f7 Rows.zipOneSpec Rows.zipOneRow = true := by
  unfold joinedFacts
  repeat' (with_reducible refine and_true_of ?_ ?_)
  all_goals (as_aux_lemma => kernel_rfl)
theorem zipOne_over : Rows.zipOneRow.holds Tryd.pinned (OpenSpec.ofChange Rows.zipOneSpec) :=
  OpenClaim.holds_of_wide 7 Tryd.f7 rfl rfl rfl rfl rfl rfl rfl ⟨rfl, rfl, rfl, rfl, rfl⟩ rfl rfl rfl rfl rfl (by as_aux_lemma => kernel_rfl) Tryd.func7 zipOne_closed
    (of_decide_eq_true (by as_aux_lemma => kernel_rfl)) (by as_aux_lemma => unfold Func.isWrapper; first | (rw [if_pos (by decide +kernel)]; kernel_rfl) | (rw [if_neg (by decide +kernel)]; exact ⟨rfl, rfl⟩))
    (fun os started H enc _ => zipOne_lifted os started H enc)
set_option maxRecDepth 100000 in
theorem zipOne_proved : Rows.ZipOneCardSaid :=
  Claim7.holds_tied_plain_at .later [] [.data] true _ false zipOne_over (fun _ h => by cases h) (by kernel_rfl) (fun _ h => by cases h) zipOne_row_tie rfl ⟨rfl, rfl⟩ (by kernel_rfl) rfl
    (fun f fn hf hfn => by
      obtain rfl : f = 7 := Option.some.inj ((show Tryd.prog.funcNamed "hedgewright/hedgkeep.ZipOne" = some 7 by kernel_rfl).symm.trans hf) |>.symm
      obtain rfl : fn = Tryd.f7 := (Option.some.inj (Tryd.func7.symm.trans hfn)).symm
      exact ⟨by kernel_rfl, fun j t ht => by
        have h : (Tryd.f7.params.toList.all fun t => !Tryd.prog.wantsStandIn t) = true := by kernel_rfl
        have hm : t ∈ Tryd.f7.params.toList := by
          rw [Array.mem_toList_iff]
          exact Array.mem_of_getElem? ht
        have h2 : Tryd.prog.wantsStandIn t = false := by simpa using List.all_eq_true.1 h t hm
        exact h2⟩)
    (by kernel_rfl)
#print axioms zipOne_proved
end Go.Proofs.YtfgbbmjnjppfnaaDoor
