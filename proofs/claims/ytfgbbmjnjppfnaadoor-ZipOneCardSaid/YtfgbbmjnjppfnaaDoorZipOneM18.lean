/-
  heap.Check, heap.Of: what they answer. Conditions: the list reads as l (RD).
  Plain laws: the heap's tree of keys with their heights is the zipped tree. No program. Conditions: none.
  zip.Split, Merge: what they answer. Conditions: the lists read as they are named (RD); the table of math/bits holds what it is laid with (DTb).
  hedgkeep.ok: what it answers. Conditions: the list reads as l (RD).
-/
import Derived.Test.YtfgbbmjnjppfnaaDoorZipOneM17
import Derived.Test.YtfgbbmjnjppfnaaDoorZipOneM15
import Derived.Test.YtfgbbmjnjppfnaaDoorZipOneM5
import Derived.Test.YtfgbbmjnjppfnaaDoorZipOneM12
import Derived.Test.YtfgbbmjnjppfnaaDoorZipOneM1

namespace Go.Proofs.YtfgbbmjnjppfnaaDoor
open Go.ChangeShapes Go.WideShapes Go.ChangeAt Go.RowKit
set_option linter.unusedVariables false
set_option linter.unusedSimpArgs false

theorem heap_zip (l : List IP) (off : Nat) (d : Int) : (heapTree l).spots d = List.zipWith (fun (p : IP) (e : Int) => ((p.1, e) : IP)) l ((ptree l off).deps d) := by
  by_cases h : l = []
  · subst h; rw [heapTree_nil, ptree_nil]; rfl
  · have hl := top_lt l h
    rw [heapTree_cons l h, ptree_cons l off h, T.spots, PT.deps, heap_zip (l.take (top l)) off (d + 1), heap_zip (l.drop (top l + 1)) (off + top l + 1) (d + 1)]
    have e : l = l.take (top l) ++ ([l[top l]] ++ l.drop (top l + 1)) := by simp
    conv => rhs; arg 2; rw [e]
    rw [List.append_assoc, List.append_assoc, List.zipWith_append (by rw [PT.deps_len, ptree_size]), List.zipWith_append (by rfl)]
    rfl
termination_by l.length
decreasing_by
  · simp; omega
  · simp; omega
theorem PT.deps_le : ∀ (t : PT) (d : Int), ∀ e ∈ t.deps d, e < d + t.size
  | .nil, _, e, h => by simp [deps] at h
  | .node p l r, d, e, h => by
    simp only [deps, List.mem_append, List.mem_singleton] at h
    simp only [size]
    rcases h with (h | rfl) | h
    · have := deps_le l (d + 1) e h; omega
    · omega
    · have := deps_le r (d + 1) e h; omega
def hD (l : List IP) (k : Nat) : Int := ((ptree l 0).deps 0).getD k 0
theorem hD_ok (l : List IP) (hn : l.length ≤ 1000) (k : Nat) (hk : k < l.length) : Dp (builtL l) (k : Int) (hD l k) ∧ hD l k ≤ 1000000 := by
  have hs : k < (ptree l 0).size := by rw [ptree_size]; exact hk
  have hdl : k < ((ptree l 0).deps 0).length := by rw [PT.deps_len]; exact hs
  have e : hD l k = ((ptree l 0).deps 0)[k] := by simp [hD, List.getD_eq_getElem?_getD, List.getElem?_eq_getElem hdl]
  constructor
  · have h := dp_of (builtL l) (ptree l 0) 0 (-1) 0 (ptree_at l 0) (Dp.base _ (by omega)) (by rw [builtL_eq, PT.pars_len]; omega) (fun i hi => by rw [builtL_eq, Nat.zero_add]) k hs
    rw [Nat.zero_add] at h
    rw [e]; exact h
  · have := PT.deps_le (ptree l 0) 0 _ (List.getElem_mem hdl)
    rw [ptree_size] at this
    rw [e]; omega
theorem dl_eq (l : List IP) : dl l (hD l) = (heapTree l).spots 0 := by
  rw [heap_zip l 0 0]
  have hdl : ((ptree l 0).deps 0).length = l.length := by rw [PT.deps_len, ptree_size]
  apply List.ext_getElem
  · simp [dl_len, hdl]
  · intro k h1 h2
    rw [dl_len] at h1
    rw [dl_at l _ k h1, List.getElem_zipWith]
    simp [hD, List.getD_eq_getElem?_getD, List.getElem?_eq_getElem (show k < ((ptree l 0).deps 0).length by omega)]

def heapOf (l : List IP) : List IP × Int := if mapRight l = 0 then ((heapTree l).spots 0, 0) else ([], mapRight l)

theorem hcheck_any (l : List IP) (v : Value) (w : World) (hr : RD w ePair v l) : Calls Tryd.prog 50 #[v] w (Ret (.int .i64 (mapRight l)) w) := by
  have HR := hide hr
  clear hr
  go_enter Tryd.func50, Tryd.ntmps50
  go_wp2_with (go_at_call 70; refine (check_any l _ _ HR.out).mono ?_; rintro e w' ⟨rfl, hb⟩)
  go_ret
  exact ⟨rfl, hb⟩
set_option maxHeartbeats 1000000 in
theorem heapOf_any (l : List IP) (v : Value) (w : World) (hr : RD w ePair v l) : Calls Tryd.prog 29 #[v] w (Ret2 ePair (heapOf l) w) := by
  have HR := hide hr
  clear hr
  by_cases h0 : mapRight l = 0
  · have hlen := mapRight_len l h0
    have hres : Hid (heapOf l = ((heapTree l).spots 0, 0)) := hide (by rw [heapOf, if_pos h0])
    have hb0 : (mapRight l != 0) = false := by simp [h0]
    have H0 := hide h0
    clear h0
    go_enter Tryd.func29, Tryd.ntmps29
    go_wp2_with (go_at_call 50; refine (hcheck_any l _ _ HR.out).mono ?_; rintro e w1 ⟨rfl, hb1⟩)
    refine (built_any l _ _ (HR.out.below hb1) (by omega)).mono ?_
    rintro e w2 ⟨g, rfl, hg, ha, hb2⟩
    have hbl : (builtL l).length = l.length := bRun_len l _
    have HA := hide ha
    have HBL := hide hbl
    clear ha hbl
    go_wp2_with fail
    refine (hspots_any l (builtL l) (hD l) _ _ _ ((HR.out.below hb1).below hb2) (HA.out.rd (by rw [HBL.out]; unfold maxLen; omega)) (by omega) HBL.out (fun k hk => hD_ok l (by omega) k hk)).mono ?_
    rintro e w3 ⟨g3, rfl, hg3, ha3, hb3⟩
    have HA3 := hide ha3
    clear ha3
    go_wp2
    go_ret2
    refine ⟨_, by rw [hres.out]; rfl, ?_, (Kp.trans hb1 (Kp.trans hb2 hb3)).bel⟩
    rw [hres.out, ← dl_eq]
    exact HA3.out.rd (by rw [dl_len]; unfold maxLen; omega)
  · have hb0 : (mapRight l != 0) = true := by simp [h0]
    have hres : Hid (heapOf l = ([], mapRight l)) := hide (by rw [heapOf, if_neg h0])
    clear h0
    go_enter Tryd.func29, Tryd.ntmps29
    go_wp2_with (go_at_call 50; refine (hcheck_any l _ _ HR.out).mono ?_; rintro e w1 ⟨rfl, hb1⟩)
    go_ret2
    exact ⟨_, by rw [hres.out]; rfl, by rw [hres.out]; exact RD.nil, hb1⟩
end Go.Proofs.YtfgbbmjnjppfnaaDoor
namespace Go.Proofs.YtfgbbmjnjppfnaaDoor
open Go.ChangeShapes Go.WideShapes Go.ChangeAt Go.RowKit
set_option linter.unusedVariables false
set_option linter.unusedSimpArgs false

def skZ : MT IP → T
  | .nil => .nil
  | .node a l r => .node a.1 (skZ l) (skZ r)
theorem skZ_spots : ∀ (t : MT IP) (d : Int), (skZ t).spots d = t.spotsBy Prod.fst d
  | .nil, _ => rfl
  | .node a l r, d => by simp [skZ, T.spots, MT.spotsBy, skZ_spots l, skZ_spots r]
/-- Ahead of the first of the greatest all are less. -/
theorem amax_first (l : List IP) : ∀ m, m ≤ l.length → 0 < l.length → amax l m 0 0 < max 1 m ∧ ∀ j, j < amax l m 0 0 → (l.getD j (0, 0)).2 < (l.getD (amax l m 0 0) (0, 0)).2 := by
  intro m
  induction m with
  | zero => intro _ _; simp [amax]
  | succ m ih =>
    intro h1 h2
    obtain ⟨i1, i2⟩ := ih (by omega) h2
    have hg := amax_ge l m 0 0 (by omega) h2 (fun j hj => by omega)
    rw [amax_last, Nat.zero_add]
    split
    · next hlt =>
      refine ⟨by omega, fun j hj => ?_⟩
      have := hg j (by omega)
      omega
    · exact ⟨by omega, i2⟩
theorem top_first (l : List IP) (h : l ≠ []) (j : Nat) (hj : j < top l) : (l[j]'(Nat.lt_trans hj (top_lt l h))).2 < (l[top l]'(top_lt l h)).2 := by
  have hl := top_lt l h
  have h0 : 0 < l.length := by omega
  have := (amax_first l l.length (Nat.le_refl _) h0).2 j hj
  simpa [top, List.getD_eq_getElem?_getD, List.getElem?_eq_getElem (show j < l.length by omega), List.getElem?_eq_getElem (show amax l l.length 0 0 < l.length from hl)] using this
theorem heapTree_nd : ∀ t : MT IP, Hp t → UpN (nd t) → heapTree (nd t) = skZ t
  | .nil, _, _ => by rw [nd, heapTree_nil]; rfl
  | .node a l r, ⟨p1, p2, p3, p4⟩, hu => by
    obtain ⟨u1, u2, u3, u4, _⟩ := upN_node hu
    have hne : nd (.node a l r) ≠ [] := by simp [nd]
    have hlen : (nd (.node a l r)).length = (nd l).length + 1 + (nd r).length := by simp [nd]; omega
    have hat : ∀ h : (nd l).length < (nd (.node a l r)).length, (nd (.node a l r))[(nd l).length]'h = a := fun h => by simp [nd]
    have hxl : ∀ j (h : j < (nd (.node a l r)).length) (h1 : j < (nd l).length), (nd (.node a l r))[j] = (nd l)[j] := fun j h h1 => by simp only [nd]; rw [List.getElem_append_left h1]
    have hxr : ∀ j (h : j < (nd (.node a l r)).length), (nd l).length < j → (nd (.node a l r))[j] ∈ nd r := fun j h h1 => by
      have e : (nd (.node a l r))[j] = (nd r)[j - ((nd l).length + 1)]'(by omega) := by
        simp only [nd]
        rw [List.getElem_append_right (by omega), List.getElem_cons, dif_neg (by omega)]
        congr 1
      rw [e]; exact List.getElem_mem _
    have htl := top_lt _ hne
    have hn : (nd l).length < (nd (.node a l r)).length := by omega
    have htop : top (nd (.node a l r)) = (nd l).length := by
      have g1 := top_ge _ hne _ hn
      rw [hat hn] at g1
      rcases Nat.lt_trichotomy (top (nd (.node a l r))) (nd l).length with h1 | h1 | h1
      · exfalso
        have hx := hxl _ htl h1
        have ho := p1 _ (List.getElem_mem h1)
        have hk := u3 _ (List.getElem_mem h1)
        rw [ov_iff] at ho
        rw [hx] at g1
        omega
      · exact h1
      · exfalso
        have g2 := top_first _ hne _ h1
        rw [hat hn] at g2
        have hx := hxr _ htl h1
        have ho := p2 _ hx
        rw [ov_iff] at ho
        omega
    rw [heapTree_cons _ hne]
    have e1 : (nd (.node a l r)).take (nd l).length = nd l := by simp [nd]
    have e2 : (nd (.node a l r)).drop ((nd l).length + 1) = nd r := by
      rw [nd, show nd l ++ a :: nd r = (nd l ++ [a]) ++ nd r by simp]
      exact List.drop_left' (by simp)
    have e3 : (nd (.node a l r))[top (nd (.node a l r))] = a := by
      have := hat hn
      simp only [htop]
      exact this
    rw [e3, htop, e1, e2, heapTree_nd l p3 u1, heapTree_nd r p4 u2]
    rfl
theorem keysM_nd : ∀ t : MT IP, keysM Prod.fst t = (nd t).map Prod.fst
  | .nil => rfl
  | .node a l r => by simp [keysM, nd, keysM_nd l, keysM_nd r]
/-- What ops leave: the spots; the heap's tree of the keys and heights is the same. -/
theorem zip_heap (ops : List O3) : heapOf (((zrT (opsA ops)).spotsBy Prod.fst 0).map fun x => (x.1, hgtF x.1)) = ((zrT (opsA ops)).spotsBy Prod.fst 0, 0) := by
  have h := zip_inv_all ops
  have hr := runL_right ops _ (Nat.le_refl _)
  rw [List.take_length] at hr
  have hk := spotsBy_keys Prod.fst (zrT (opsA ops)) 0
  rw [keysM_nd, h.nd_, List.map_map] at hk
  have hk2 : ((zrT (opsA ops)).spotsBy Prod.fst 0).map Prod.fst = (runL ops).1.map Prod.fst := by rw [hk]; simp [Function.comp_def, zk]
  have e : ((zrT (opsA ops)).spotsBy Prod.fst 0).map (fun x => (x.1, hgtF x.1)) = nd (zrT (opsA ops)) := by
    rw [h.nd_, ← hk2, List.map_map]; rfl
  have hm : mapRight (nd (zrT (opsA ops))) = 0 := by
    rw [mapRight_keys _ (runL ops).1 (by rw [h.nd_, List.map_map]; simp [Function.comp_def, zk])]; exact hr
  rw [e, heapOf, if_pos hm, heapTree_nd _ h.hp (by rw [h.nd_]; exact zk_up h.up), skZ_spots]
end Go.Proofs.YtfgbbmjnjppfnaaDoor
namespace Go.Proofs.YtfgbbmjnjppfnaaDoor
open Go.ChangeShapes Go.WideShapes Go.ChangeAt Go.RowKit
set_option linter.unusedVariables false
set_option linter.unusedSimpArgs false

theorem mtP_sizeZ (ks : List Int) : ∀ t : PT, (mtP ks t).size = t.size
  | .nil => rfl
  | .node p l r => by simp [mtP, MT.size, PT.size, mtP_sizeZ ks l, mtP_sizeZ ks r]
theorem readZ_size (l : List IP) : (readZ l).1.size ≤ 200 ∧ ((readZ l).2 = 0 → (parOf l).2 = 0 ∧ (readZ l).1.size = l.length ∧ l.length ≤ 200) := by
  unfold readZ
  by_cases h0 : (parOf l).2 = 0
  · obtain ⟨hlen, hmr, t, hpt, hpo⟩ := parOf_len l h0
    obtain ⟨hta, hts, _⟩ := ptR_to l 0 l.length 0 t (by omega) hpt
    rw [if_neg (by simp [h0])]
    split
    · rw [hpt]
      simp only [mtP_sizeZ]
      exact ⟨by omega, fun _ => ⟨h0, by omega, hlen⟩⟩
    · exact ⟨by simp [MT.size], fun h => by simp at h⟩
  · rw [if_pos h0]
    exact ⟨by simp [MT.size], fun h => absurd h h0⟩
def splitZ (l : List IP) (key : Int) : List IP × List IP × Int :=
  if (readZ l).2 ≠ 0 then ([], [], (readZ l).2) else if key < 0 ∨ 1000000 < key then ([], [], 1) else
  ((unz (mapZ (readZ l).1) key).1.spotsBy Prod.fst 0, (unz (mapZ (readZ l).1) key).2.spotsBy Prod.fst 0, 0)
def SpPost (r : List IP × List IP × Int) (w : World) (e : Ending) (w' : World) : Prop := ∃ v u, e = .returned (.tuple #[v, u, .int .i64 r.2.2]) ∧ RD w' ePair v r.1 ∧ RD w' ePair u r.2.1 ∧ Below w.heap.size w w'
set_option maxRecDepth 100000 in
set_option maxHeartbeats 4000000 in
theorem zipSplit_any (l : List IP) (key : Int) (v : Value) (w : World) (hr : RD w ePair v l) (hdb : DTb w) : Calls Tryd.prog 9 #[v, .int .i64 key] w (SpPost (splitZ l key) w) := by
  obtain ⟨A, c, rfl, hc, hm⟩ := hr.shape
  have HRE := hide (zipRead_any l _ w hr hdb)
  unfold ZRPost at HRE
  obtain ⟨hz, _⟩ := readZ_size l
  clear hr hdb
  obtain ⟨⟨T, er⟩, hP⟩ : ∃ P, P = readZ l := ⟨_, rfl⟩
  have hsp : splitZ l key = if er ≠ 0 then ([], [], er) else if key < 0 ∨ 1000000 < key then ([], [], 1) else ((unz (mapZ T) key).1.spotsBy Prod.fst 0, (unz (mapZ T) key).2.spotsBy Prod.fst 0, 0) := by rw [splitZ, ← hP]
  rw [← hP] at HRE hz
  simp only at HRE hz
  have hus := unz_size (mapZ T) key
  rw [mapZ_size] at hus
  clear hP
  by_cases he : er = 0
  · subst he
    by_cases hk : key < 0 ∨ 1000000 < key
    · have H1 : Hid (splitZ l key = ([], [], 1)) := hide (by rw [hsp, if_neg (by simp), if_pos hk])
      clear hsp hus
      go_enter Tryd.func9, Tryd.ntmps9
      go_wp2_with fail
      with_reducible refine HRE.out.mono ?_
      rintro e w1 ⟨p1, F1, rfl, hm1, hF1, kk1⟩
      clear hm1 hF1
      rcases hk with hk | hk
      · have d1 : decide (key < 0) = true := by simp [hk]
        go_wp2
        go_ret3
        exact ⟨_, _, by rw [H1.out]; rfl, by rw [H1.out]; exact RD.nil, by rw [H1.out]; exact RD.nil, kk1.bel⟩
      · have d1 : decide (key < 0) = false := by simp; omega
        have d2 : decide (1000000 < key) = true := by simp [hk]
        go_wp2
        go_ret3
        exact ⟨_, _, by rw [H1.out]; rfl, by rw [H1.out]; exact RD.nil, by rw [H1.out]; exact RD.nil, kk1.bel⟩
    · have H1 : Hid (splitZ l key = ((unz (mapZ T) key).1.spotsBy Prod.fst 0, (unz (mapZ T) key).2.spotsBy Prod.fst 0, 0)) := hide (by rw [hsp, if_neg (by simp), if_neg hk])
      have d1 : decide (key < 0) = false := by simp; omega
      have d2 : decide (1000000 < key) = false := by simp; omega
      have HUZ := hide (fun p F W h => unzipped_any (mapZ T) p F key W h)
      obtain ⟨⟨Ta, Tb⟩, hU⟩ : ∃ P, P = unz (mapZ T) key := ⟨_, rfl⟩
      rw [← hU] at HUZ H1 hus
      simp only at hus H1
      clear hsp hk hU
      go_enter Tryd.func9, Tryd.ntmps9
      go_wp2_with fail
      with_reducible refine HRE.out.mono ?_
      rintro e w1 ⟨p1, F1, rfl, hm1, hF1, kk1⟩
      have HM1 := hide hm1.mapZ
      have HF1 := hide hF1
      clear hm1 hF1
      go_wp2_with fail
      with_reducible refine (HUZ.out _ _ _ HM1.out).mono ?_
      rintro e w2 ⟨pa, pb, Fa, Fb, rfl, ha, hb, _, _, _, hk2⟩
      have kk2 : Kp w w2 := hk2.kp kk1 HF1.out
      have HTA := hide (zipTold_any Ta pa Fa w2 ha (by omega))
      have HTB := hide (fun W (h : Kp w2 W) => zipTold_any Tb pb Fb W (hb.kp h) (by omega))
      clear ha hb hk2
      go_wp2_with fail
      with_reducible refine HTA.out.mono ?_
      rintro e w3 ⟨v3, rfl, hr3, hb3⟩
      have kk3 : Kp w2 w3 := Kp.of hb3
      have HR3 := hide hr3
      clear hr3 hb3
      go_wp2_with fail
      with_reducible refine (HTB.out _ kk3).mono ?_
      rintro e w4 ⟨v4, rfl, hr4, hb4⟩
      have kk4 : Kp w3 w4 := Kp.of hb4
      have HR4 := hide hr4
      clear hr4 hb4
      go_wp2
      go_ret3
      exact ⟨_, _, by rw [H1.out]; rfl, by rw [H1.out]; exact HR3.out.kp kk4, by rw [H1.out]; exact HR4.out, (kk2.trans (kk3.trans kk4)).bel⟩
  · have H1 : Hid (splitZ l key = ([], [], er)) := hide (by rw [hsp, if_pos he])
    have b0 : (er != 0) = true := by simpa using he
    clear hsp he hus
    go_enter Tryd.func9, Tryd.ntmps9
    go_wp2_with fail
    with_reducible refine HRE.out.mono ?_
    rintro e w1 ⟨p1, F1, rfl, hm1, hF1, kk1⟩
    clear hm1 hF1
    go_wp2
    go_ret3
    exact ⟨_, _, by rw [H1.out]; rfl, by rw [H1.out]; exact RD.nil, by rw [H1.out]; exact RD.nil, kk1.bel⟩

def badZ (a b : List IP) : Bool := match a.getLast?, b.head? with
  | some x, some y => decide (y.1 ≤ x.1)
  | _, _ => false
def mergeZ (a b : List IP) : List IP × Int :=
  if (parOf a).2 ≠ 0 then ([], (parOf a).2) else if (parOf b).2 ≠ 0 then ([], (parOf b).2) else
  if (readZ a).2 ≠ 0 ∨ (readZ b).2 ≠ 0 ∨ badZ a b = true then ([], 3) else if 200 < a.length + b.length then ([], 2) else
  ((zipM (mapZ (readZ a).1) (mapZ (readZ b).1)).spotsBy Prod.fst 0, 0)
def MgRel (a b : List IP) (w : World) (iv : Value) (wr : World) : Prop := (iv = .int .i64 0 ∨ (iv = .int .i64 1 ∧ (parOf a).2 = 0) ∨ (iv = .int .i64 2 ∧ (parOf a).2 = 0 ∧ (parOf b).2 = 0)) ∧ Kp w wr
theorem badZ_nil_left (b : List IP) : badZ [] b = false := rfl
theorem badZ_nil_right (a : List IP) : badZ a [] = false := by unfold badZ; cases a.getLast? <;> rfl
theorem badZ_at (a b : List IP) (ha : a.length - 1 < a.length) (hb : 0 < b.length) : badZ a b = decide (b[0].1 ≤ a[a.length - 1].1) := by
  unfold badZ
  rw [List.getLast?_eq_getElem?, List.getElem?_eq_getElem ha, List.head?_eq_getElem?, List.getElem?_eq_getElem hb]
theorem run_ix0 (x y : Value) (w : World) : (Instr.index 79 (.agg #[x, y]) (.int .i64 0)).run Tryd.prog w = .ok x w := by
  simp [Instr.index, run_underlying Tryd.underlying79, asIntOf, go_sem]
theorem run_ix1 (x y : Value) (w : World) : (Instr.index 79 (.agg #[x, y]) (.int .i64 1)).run Tryd.prog w = .ok y w := by
  simp [Instr.index, run_underlying Tryd.underlying79, asIntOf, go_sem]
set_option maxRecDepth 100000 in
set_option maxHeartbeats 8000000 in
theorem zipMerge_any (a b : List IP) (va vb : Value) (w : World) (hra : RD w ePair va a) (hrb : RD w ePair vb b) (hdb : DTb w) : Calls Tryd.prog 10 #[va, vb] w (Ret2 ePair (mergeZ a b) w) := by
  obtain ⟨A, c, rfl, hc, hm⟩ := hra.shape
  obtain ⟨B, d, rfl, hd, hn⟩ := hrb.shape
  have HA := hide hra
  have HB := hide hrb
  have HCA := hide (fun W h => shapeCheck_any a (.slice A a.length c) W h)
  have HCB := hide (fun W h => shapeCheck_any b (.slice B b.length d) W h)
  have HDB := hide hdb
  have hix0 := fun W => run_ix0 (.slice A a.length c) (.slice B b.length d) W
  have hix1 := fun W => run_ix1 (.slice A a.length c) (.slice B b.length d) W
  clear hra hrb hdb
  go_enter Tryd.func10, Tryd.ntmps10
  go_wp2
  go_loopw [16] (MgRel a b w) (fun i _ => 2 - (intOf i).toNat)
  case atStart => exact ⟨.inl rfl, Kp.refl _⟩
  case round =>
    obtain ⟨hi, hkp⟩ := hrel
    have HKP := hide hkp
    rcases hi with rfl | ⟨rfl, hpa⟩ | ⟨rfl, hpa, hpb⟩
    · obtain ⟨e0, he⟩ : ∃ e0, e0 = (parOf a).2 := ⟨_, rfl⟩
      rw [← he] at HCA
      by_cases h0 : e0 = 0
      · subst h0
        have HE := hide he
        clear he
        go_wp2_with fail
        with_reducible refine (HCA.out _ (HA.out.kp hkp)).mono ?_
        rintro e w1 ⟨rfl, hb1⟩
        have kk1 := hkp.trans (Kp.of hb1)
        clear hb1
        go_wp2
        go_roundw
        case rel => exact ⟨.inr (.inl ⟨rfl, HE.out.symm⟩), kk1⟩
        case measure => simp [intOf]
      · have H1 : Hid (mergeZ a b = ([], e0)) := hide (by rw [mergeZ, ← he, if_pos h0])
        have b0 : (e0 != 0) = true := by simpa using h0
        clear he h0
        go_wp2_with fail
        with_reducible refine (HCA.out _ (HA.out.kp hkp)).mono ?_
        rintro e w1 ⟨rfl, hb1⟩
        have kk1 := hkp.trans (Kp.of hb1)
        clear hb1
        go_wp2
        go_ret2
        exact ⟨_, by rw [H1.out]; rfl, by rw [H1.out]; exact RD.nil, kk1.bel⟩
    · obtain ⟨e0, he⟩ : ∃ e0, e0 = (parOf b).2 := ⟨_, rfl⟩
      rw [← he] at HCB
      have HPA := hide hpa
      by_cases h0 : e0 = 0
      · subst h0
        have HE := hide he
        clear he hpa
        go_wp2_with fail
        with_reducible refine (HCB.out _ (HB.out.kp hkp)).mono ?_
        rintro e w1 ⟨rfl, hb1⟩
        have kk1 := hkp.trans (Kp.of hb1)
        clear hb1
        go_wp2
        go_roundw
        case rel => exact ⟨.inr (.inr ⟨rfl, HPA.out, HE.out.symm⟩), kk1⟩
        case measure => simp [intOf]
      · have H1 : Hid (mergeZ a b = ([], e0)) := hide (by rw [mergeZ, if_neg (by simp [hpa]), ← he, if_pos h0])
        have b0 : (e0 != 0) = true := by simpa using h0
        clear he h0 hpa
        go_wp2_with fail
        with_reducible refine (HCB.out _ (HB.out.kp hkp)).mono ?_
        rintro e w1 ⟨rfl, hb1⟩
        have kk1 := hkp.trans (Kp.of hb1)
        clear hb1
        go_wp2
        go_ret2
        exact ⟨_, by rw [H1.out]; rfl, by rw [H1.out]; exact RD.nil, kk1.bel⟩
    · have hla := mapRight_len a (parOf_len a hpa).2.1
      have hlb := mapRight_len b (parOf_len b hpb).2.1
      have hmg : mergeZ a b = if (readZ a).2 ≠ 0 ∨ (readZ b).2 ≠ 0 ∨ badZ a b = true then ([], 3) else if 200 < a.length + b.length then ([], 2) else ((zipM (mapZ (readZ a).1) (mapZ (readZ b).1)).spotsBy Prod.fst 0, 0) := by
        rw [mergeZ, if_neg (by simp [hpa]), if_neg (by simp [hpb])]
      have HRA := hide (fun W (h : Kp w W) => zipRead_any a (.slice A a.length c) W (HA.out.kp h) (HDB.out.kp h))
      have HRB := hide (fun W (h : Kp w W) => zipRead_any b (.slice B b.length d) W (HB.out.kp h) (HDB.out.kp h))
      unfold ZRPost at HRA HRB
      obtain ⟨hza, _⟩ := readZ_size a
      obtain ⟨hzb, _⟩ := readZ_size b
      obtain ⟨⟨TA, ra⟩, hPA⟩ : ∃ P, P = readZ a := ⟨_, rfl⟩
      obtain ⟨⟨TB', rb⟩, hPB⟩ : ∃ P, P = readZ b := ⟨_, rfl⟩
      rw [← hPA] at HRA hza hmg
      rw [← hPB] at HRB hzb hmg
      simp only at HRA HRB hza hzb hmg
      have HMG := hide hmg
      clear hmg hPA hPB hpa hpb
      go_wp2_with fail
      with_reducible refine (HRA.out _ hkp).mono ?_
      rintro e w1 ⟨p1, F1, rfl, hm1, hF1, kk1⟩
      have K1 : Kp w w1 := hkp.trans kk1
      have HM1 := hide hm1.mapZ
      have HF1 := hide hF1
      clear hm1 hF1 kk1
      go_wp2_with fail
      with_reducible refine (HRB.out _ K1).mono ?_
      rintro e w2 ⟨p2, F2, rfl, hm2, hF2, kk2⟩
      have K2 : Kp w w2 := K1.trans kk2
      have HM2 := hide hm2.mapZ
      have HF2 := hide hF2
      have HK2 := hide kk2
      clear hm2 hF2 kk2
      have HLT := hide HM1.out.lt
      by_cases h1 : ra = 0
      · by_cases h2 : rb = 0
        · subst h1 h2
          have b0 : ((0 : Int) != 0) = false := by decide
          have HD12 : Hid (∀ x ∈ F1, x ∉ F2) := hide (fun x h h' => by have := HLT.out x h; have := HF2.out x h'; omega)
          have HZP := hide (fun W (h : Kp w2 W) => zipped_any _ (mapZ TA) (mapZ TB') p1 p2 F1 F2 W (Nat.le_refl _) ((HM1.out.kp HK2.out).kp h) (HM2.out.kp h) HD12.out)
          have hzs := zipM_size _ (mapZ TA) (mapZ TB') (Nat.le_refl _)
          rw [mapZ_size, mapZ_size] at hzs
          have HFK : Hid (∀ W W', Kp w2 W → Kf (fun i => i ∈ F1 ∨ i ∈ F2) W W' → Kp w W') := hide (fun W W' h1 h2 => h2.kp (K2.trans h1) (fun i hi => by
            rcases hi with hi | hi
            · have := HF1.out i hi; have := hkp.size; omega
            · have := HF2.out i hi; have := K1.size; omega))
          have KW0 := Kp.refl w2
          rcases Nat.eq_zero_or_pos a.length with ha | ha
          · obtain rfl : a = [] := List.eq_nil_of_length_eq_zero ha
            have HBZ : Hid (badZ [] b = false) := hide (badZ_nil_left b)
            have d1 : decide ((0 : Int) < (([] : List IP).length : Int)) = false := by simp
            have hwl : IntKind.i64.wrap ((([] : List IP).length : Int) + (b.length : Int)) = (([] : List IP).length : Int) + (b.length : Int) := IntWalk.i64_in _ (by omega)
            have hbig : ¬ 200 < ([] : List IP).length + b.length := by simp <;> omega
            have H1 : Hid (mergeZ ([] : List IP) b = ((zipM (mapZ TA) (mapZ TB')).spotsBy Prod.fst 0, 0)) := hide (by rw [HMG.out, if_neg (by simp [HBZ.out]), if_neg hbig])
            have d9 : decide ((200 : Int) < (([] : List IP).length : Int) + (b.length : Int)) = false := by simp only [decide_eq_false_iff_not]; omega
            clear hbig
            go_wp2_with fail
            go_quiet (fail)
            go_wp2_with fail
            with_reducible refine (HZP.out _ (by (focus ((repeat (first | (with_reducible assumption) | (with_reducible exact Kp.refl _) | (with_reducible apply Kp.drew) | (with_reducible apply Kp.drewN) | ((with_reducible apply Kp.setR); (focus (first | (with_reducible assumption) | (simp; done) | (simp; omega)))) | (with_reducible apply Kp.alloc) | ((with_reducible apply Kp.call); (with_reducible assumption)) | ((with_reducible apply Kp.app); (with_reducible assumption)))); done)))).mono ?_
            rintro e w5 ⟨p5, F5, rfl, hm5, hF5, hk5⟩
            have K5 := HFK.out _ w5 (by (focus ((repeat (first | (with_reducible assumption) | (with_reducible exact Kp.refl _) | (with_reducible apply Kp.drew) | (with_reducible apply Kp.drewN) | ((with_reducible apply Kp.setR); (focus (first | (with_reducible assumption) | (simp; done) | (simp; omega)))) | (with_reducible apply Kp.alloc) | ((with_reducible apply Kp.call); (with_reducible assumption)) | ((with_reducible apply Kp.app); (with_reducible assumption)))); done))) hk5
            have HTO := hide (zipTold_any _ p5 F5 w5 hm5 (by omega))
            clear hm5 hF5 hk5
            go_wp2_with fail
            with_reducible refine HTO.out.mono ?_
            rintro e w6 ⟨v6, rfl, hr6, hb6⟩
            have kk6 : Kp w5 w6 := Kp.of hb6
            have HR6 := hide hr6
            clear hr6 hb6
            go_wp2
            go_ret2
            exact ⟨_, by rw [H1.out]; rfl, by rw [H1.out]; exact HR6.out, (K5.trans kk6).bel⟩
          · have hb3 := ha
            rcases Nat.eq_zero_or_pos b.length with hb | hb
            · obtain rfl : b = [] := List.eq_nil_of_length_eq_zero hb
              have HBZ : Hid (badZ a [] = false) := hide (badZ_nil_right a)
              have d1 : decide ((0 : Int) < (a.length : Int)) = true := by simp <;> omega
              have d2 : decide ((0 : Int) < (([] : List IP).length : Int)) = false := by simp
              have hwl : IntKind.i64.wrap ((a.length : Int) + (([] : List IP).length : Int)) = (a.length : Int) + (([] : List IP).length : Int) := IntWalk.i64_in _ (by omega)
              have hbig : ¬ 200 < a.length + ([] : List IP).length := by simp <;> omega
              have H1 : Hid (mergeZ a ([] : List IP) = ((zipM (mapZ TA) (mapZ TB')).spotsBy Prod.fst 0, 0)) := hide (by rw [HMG.out, if_neg (by simp [HBZ.out]), if_neg hbig])
              have d9 : decide ((200 : Int) < (a.length : Int) + (([] : List IP).length : Int)) = false := by simp only [decide_eq_false_iff_not]; omega
              clear hbig
              go_wp2_with fail
              go_quiet (fail)
              go_wp2_with fail
              with_reducible refine (HZP.out _ (by (focus ((repeat (first | (with_reducible assumption) | (with_reducible exact Kp.refl _) | (with_reducible apply Kp.drew) | (with_reducible apply Kp.drewN) | ((with_reducible apply Kp.setR); (focus (first | (with_reducible assumption) | (simp; done) | (simp; omega)))) | (with_reducible apply Kp.alloc) | ((with_reducible apply Kp.call); (with_reducible assumption)) | ((with_reducible apply Kp.app); (with_reducible assumption)))); done)))).mono ?_
              rintro e w5 ⟨p5, F5, rfl, hm5, hF5, hk5⟩
              have K5 := HFK.out _ w5 (by (focus ((repeat (first | (with_reducible assumption) | (with_reducible exact Kp.refl _) | (with_reducible apply Kp.drew) | (with_reducible apply Kp.drewN) | ((with_reducible apply Kp.setR); (focus (first | (with_reducible assumption) | (simp; done) | (simp; omega)))) | (with_reducible apply Kp.alloc) | ((with_reducible apply Kp.call); (with_reducible assumption)) | ((with_reducible apply Kp.app); (with_reducible assumption)))); done))) hk5
              have HTO := hide (zipTold_any _ p5 F5 w5 hm5 (by omega))
              clear hm5 hF5 hk5
              go_wp2_with fail
              with_reducible refine HTO.out.mono ?_
              rintro e w6 ⟨v6, rfl, hr6, hb6⟩
              have kk6 : Kp w5 w6 := Kp.of hb6
              have HR6 := hide hr6
              clear hr6 hb6
              go_wp2
              go_ret2
              exact ⟨_, by rw [H1.out]; rfl, by rw [H1.out]; exact HR6.out, (K5.trans kk6).bel⟩
            · have hal : a.length - 1 < a.length := by omega
              have hbz := badZ_at a b hal hb
              obtain ⟨ba, oa, rfl, _, xa, _⟩ := (HA.out.kp K2).pair hal
              obtain ⟨bb, ob, rfl, _, xb, _⟩ := (HB.out.kp K2).pair hb
              rw [Nat.zero_mul, Nat.add_zero] at xb
              obtain ⟨ya, hya⟩ : ∃ ya, ya = a[a.length - 1].1 := ⟨_, rfl⟩
              obtain ⟨yb, hyb⟩ : ∃ yb, yb = b[0].1 := ⟨_, rfl⟩
              rw [← hya] at xa hbz
              rw [← hyb] at xb hbz
              obtain ⟨L1, hL1⟩ : ∃ L1 : Nat, L1 = a.length - 1 := ⟨_, rfl⟩
              rw [← hL1] at xa
              have hw1 : IntKind.i64.wrap ((a.length : Int) - 1) = (L1 : Int) := by rw [IntWalk.i64_in _ (by omega)]; omega
              have hL2 : (L1 : Int) < (a.length : Int) := by omega
              have d1 : decide ((0 : Int) < (a.length : Int)) = true := by simp <;> omega
              have d2 : decide ((0 : Int) < (b.length : Int)) = true := by simp <;> omega
              have hb0 : (0 : Int) < (b.length : Int) := by omega
              by_cases hle : yb ≤ ya
              · have H1 : Hid (mergeZ a b = ([], 3)) := hide (by rw [HMG.out, if_pos (.inr (.inr (by rw [hbz]; simp [hle])))])
                have d3 : decide (yb ≤ ya) = true := by simp [hle]
                clear hbz hya hyb hL1 hle
                go_wp2_with fail
                go_quiet (fail)
                go_wp2
                go_ret2
                exact ⟨_, by rw [H1.out]; rfl, by rw [H1.out]; exact RD.nil, Kp.bel (by (focus ((repeat (first | (with_reducible assumption) | (with_reducible exact Kp.refl _) | (with_reducible apply Kp.drew) | (with_reducible apply Kp.drewN) | ((with_reducible apply Kp.setR); (focus (first | (with_reducible assumption) | (simp; done) | (simp; omega)))) | (with_reducible apply Kp.alloc) | ((with_reducible apply Kp.call); (with_reducible assumption)) | ((with_reducible apply Kp.app); (with_reducible assumption)))); done)))⟩
              · have HBZ : Hid (badZ a b = false) := hide (by rw [hbz]; simp; omega)
                have d3 : decide (yb ≤ ya) = false := by simp; omega
                clear hbz hya hyb hL1 hle
                have hwl : IntKind.i64.wrap ((a.length : Int) + (b.length : Int)) = (a.length : Int) + (b.length : Int) := IntWalk.i64_in _ (by omega)
                by_cases hbig : 200 < a.length + b.length
                · have H1 : Hid (mergeZ a b = ([], 2)) := hide (by rw [HMG.out, if_neg (by simp [HBZ.out]), if_pos hbig])
                  have d9 : decide ((200 : Int) < (a.length : Int) + (b.length : Int)) = true := by simp only [decide_eq_true_eq]; omega
                  clear hbig
                  go_wp2_with fail
                  go_quiet (fail)
                  go_wp2
                  go_ret2
                  exact ⟨_, by rw [H1.out]; rfl, by rw [H1.out]; exact RD.nil, Kp.bel (by (focus ((repeat (first | (with_reducible assumption) | (with_reducible exact Kp.refl _) | (with_reducible apply Kp.drew) | (with_reducible apply Kp.drewN) | ((with_reducible apply Kp.setR); (focus (first | (with_reducible assumption) | (simp; done) | (simp; omega)))) | (with_reducible apply Kp.alloc) | ((with_reducible apply Kp.call); (with_reducible assumption)) | ((with_reducible apply Kp.app); (with_reducible assumption)))); done)))⟩
                · have H1 : Hid (mergeZ a b = ((zipM (mapZ TA) (mapZ TB')).spotsBy Prod.fst 0, 0)) := hide (by rw [HMG.out, if_neg (by simp [HBZ.out]), if_neg hbig])
                  have d9 : decide ((200 : Int) < (a.length : Int) + (b.length : Int)) = false := by simp only [decide_eq_false_iff_not]; omega
                  clear hbig
                  go_wp2_with fail
                  go_quiet (fail)
                  go_wp2_with fail
                  with_reducible refine (HZP.out _ (by (focus ((repeat (first | (with_reducible assumption) | (with_reducible exact Kp.refl _) | (with_reducible apply Kp.drew) | (with_reducible apply Kp.drewN) | ((with_reducible apply Kp.setR); (focus (first | (with_reducible assumption) | (simp; done) | (simp; omega)))) | (with_reducible apply Kp.alloc) | ((with_reducible apply Kp.call); (with_reducible assumption)) | ((with_reducible apply Kp.app); (with_reducible assumption)))); done)))).mono ?_
                  rintro e w5 ⟨p5, F5, rfl, hm5, hF5, hk5⟩
                  have K5 := HFK.out _ w5 (by (focus ((repeat (first | (with_reducible assumption) | (with_reducible exact Kp.refl _) | (with_reducible apply Kp.drew) | (with_reducible apply Kp.drewN) | ((with_reducible apply Kp.setR); (focus (first | (with_reducible assumption) | (simp; done) | (simp; omega)))) | (with_reducible apply Kp.alloc) | ((with_reducible apply Kp.call); (with_reducible assumption)) | ((with_reducible apply Kp.app); (with_reducible assumption)))); done))) hk5
                  have HTO := hide (zipTold_any _ p5 F5 w5 hm5 (by omega))
                  clear hm5 hF5 hk5
                  go_wp2_with fail
                  with_reducible refine HTO.out.mono ?_
                  rintro e w6 ⟨v6, rfl, hr6, hb6⟩
                  have kk6 : Kp w5 w6 := Kp.of hb6
                  have HR6 := hide hr6
                  clear hr6 hb6
                  go_wp2
                  go_ret2
                  exact ⟨_, by rw [H1.out]; rfl, by rw [H1.out]; exact HR6.out, (K5.trans kk6).bel⟩
        · have H1 : Hid (mergeZ a b = ([], 3)) := hide (by rw [HMG.out, if_pos (.inr (.inl h2))])
          have b0 : (ra != 0) = false := by simpa using h1
          have b1 : (rb != 0) = true := by simpa using h2
          clear h1 h2
          go_wp2_with fail
          go_quiet (fail)
          go_wp2
          go_ret2
          exact ⟨_, by rw [H1.out]; rfl, by rw [H1.out]; exact RD.nil, Kp.bel (by (focus ((repeat (first | (with_reducible assumption) | (with_reducible exact Kp.refl _) | (with_reducible apply Kp.drew) | (with_reducible apply Kp.drewN) | ((with_reducible apply Kp.setR); (focus (first | (with_reducible assumption) | (simp; done) | (simp; omega)))) | (with_reducible apply Kp.alloc) | ((with_reducible apply Kp.call); (with_reducible assumption)) | ((with_reducible apply Kp.app); (with_reducible assumption)))); done)))⟩
      · have H1 : Hid (mergeZ a b = ([], 3)) := hide (by rw [HMG.out, if_pos (.inl h1)])
        have b0 : (ra != 0) = true := by simpa using h1
        clear h1
        go_wp2_with fail
        go_quiet (fail)
        go_wp2
        go_ret2
        exact ⟨_, by rw [H1.out]; rfl, by rw [H1.out]; exact RD.nil, Kp.bel (by (focus ((repeat (first | (with_reducible assumption) | (with_reducible exact Kp.refl _) | (with_reducible apply Kp.drew) | (with_reducible apply Kp.drewN) | ((with_reducible apply Kp.setR); (focus (first | (with_reducible assumption) | (simp; done) | (simp; omega)))) | (with_reducible apply Kp.alloc) | ((with_reducible apply Kp.call); (with_reducible assumption)) | ((with_reducible apply Kp.app); (with_reducible assumption)))); done)))⟩
end Go.Proofs.YtfgbbmjnjppfnaaDoor
namespace Go.Proofs.YtfgbbmjnjppfnaaDoor
open Go.ChangeShapes Go.WideShapes Go.ChangeAt Go.RowKit
set_option linter.unusedVariables false
set_option linter.unusedSimpArgs false

def okL (l : List Int) : Bool := l.all fun e => e == 0
def OkRel (l : List Int) (w : World) (i : Value) (wr : World) : Prop := ∃ k : Nat, k ≤ l.length ∧ i = .int .i64 k ∧ okL (l.drop k) = okL l ∧ w = wr

set_option maxHeartbeats 400000 in
theorem ok_any (l : List Int) (v : Value) (w : World) (hr : RD w eInt v l) : Calls Tryd.prog 27 #[v] w fun e w' => e = .returned (.bool (okL l)) ∧ w = w' := by
  obtain ⟨A, c, rfl, hc, hm⟩ := hr.shape
  have HR := hide hr
  clear hr
  go_enter Tryd.func27, Tryd.ntmps27
  go_wp2
  go_loopw [7] (OkRel l w) (fun i _ => l.length - (intOf i).toNat)
  case atStart => exact ⟨0, by omega, rfl, rfl, rfl⟩
  case round =>
    obtain ⟨k, hk, rfl, hok, rfl⟩ := hrel
    have HO := hide hok
    clear hok
    by_cases hlt : k < l.length
    · obtain ⟨b, o, rfl, hb, c0⟩ := HR.out.int hlt
      have hd : Hid (okL (l.drop k) = (l[k] == 0 && okL (l.drop (k + 1)))) := hide (by rw [List.drop_eq_getElem_cons hlt]; rfl)
      by_cases h0 : l[k] = 0
      · have hn : (l[k] != 0) = false := by simp [h0]
        have hst : Hid (okL (l.drop (k + 1)) = okL l) := hide (by rw [← HO.out, hd.out, h0]; rfl)
        clear h0
        go_wp2
        go_roundw
        case rel => exact ⟨k + 1, by omega, by go_num, hst.out, rfl⟩
        case measure => simp [intOf]; omega
      · have hn : (l[k] != 0) = true := by simp [h0]
        have hst : Hid (okL l = false) := hide (by rw [← HO.out, hd.out]; simp [h0])
        clear h0
        go_wp2
        go_ret
        exact ⟨by rw [hst.out]; rfl, rfl⟩
    · have hst : Hid (okL l = true) := hide (by rw [← HO.out, List.drop_of_length_le (by omega)]; rfl)
      go_wp2
      go_ret
      exact ⟨by rw [hst.out]; rfl, rfl⟩
end Go.Proofs.YtfgbbmjnjppfnaaDoor
