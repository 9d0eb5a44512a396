/-
  The document's Handled: what it answers. Conditions: the lists read as they are named (RD, RDS), the input is right (rgF).
  hedgref.SameTold where both are the same. Conditions: the lists read as they are named (RD).
  hedgref.HandsRight: it answers what hands.right answers. Conditions: the lists read as they are named (RD, RDS).
-/
import Derived.Test.YtoihdnekkgpcoaaG15
import Derived.Test.YtoihdnekkgpcoaaG10
import Derived.Deep.DeepCutAuto

namespace Go.Proofs.Ytoihdnekkgpcoaa
open Go.ChangeShapes Go.WideShapes Go.ChangeAt Go.RowKit
set_option linter.unusedVariables false
set_option linter.unusedSimpArgs false

def HdPost (alg : Nat) (l : List Int) (P : List (List Dd)) (o : List Int) (w : World) (e : Ending) (w' : World) : Prop :=
  ∃ s vd vl, e = .returned (.agg #[vd, vl]) ∧ FinR alg P (ordS alg P o (st0 l)) s ∧ RD w' eDone vd (doneL s P.length) ∧ RD w' eInt vl (leftM s.m) ∧ Kp w w'
/-- The order is stepped through; the rounds; a round. -/
def HoRel (K : Bl) (P : List (List Dd)) (l o : List Int) (iv : Value) (wx : World) : Prop :=
  ∃ k : Nat, k ≤ o.length ∧ iv = .int .i64 k ∧ BM K P l (ordS K.alg P (o.take k) (st0 l)) wx ∧ (ordS K.alg P (o.take k) (st0 l)).now ≤ k
def HtRel (K : Bl) (P : List (List Dd)) (l : List Int) (s1 : St) (g : Nat) (sv : Value) (wx : World) : Prop :=
  ∃ (b : Bool) (s : St) (k : Nat), sv = .bool b ∧ BM K P l s wx ∧ s = itR K.alg P s1 k ∧ (b = false → rnd K.alg P s = s) ∧ s.now ≤ 5000 ∧ (4000 - s.now) + (if b then 1 else 0) ≤ g
def HiRel (K : Bl) (P : List (List Dd)) (l : List Int) (s : St) (sv iv : Value) (wx : World) : Prop :=
  ∃ (j : Nat) (fb : Bool) (s' : St), j ≤ P.length ∧ iv = .int .i64 j ∧ sv = .bool fb ∧ s' = (List.range j).foldl (stpL K.alg P) s ∧ (fb = true ↔ s.now < s'.now) ∧ BM K P l s' wx ∧ s.now ≤ s'.now ∧ (s'.now = s.now → s' = s) ∧ (s.now < s'.now → s.now < 4000) ∧ s'.now ≤ 5000
theorem BM.now {K : Bl} {P : List (List Dd)} {l : List Int} {s : St} {w : World} (h : BM K P l s w) : w.cell? ⟨K.b, 4, none⟩ = some (.int .i64 s.now) := by
  obtain ⟨dl, _, _, a, b, c, h⟩ := h.ex
  exact h.bb.cell 4
/-- The keys that are left, one by one. -/
def LvRel (s : St) (Q0 : Nat) (vd : Value) (W40 : World) (f : Nat) (iv : Value) (wx : World) : Prop :=
  ∃ (i : Nat) (lv : Value) (acc : List Int), i < s.m.n ∧ 11 - s.m.ky i ≤ (f : Int) ∧ iv = .int .i64 i ∧ BC wx Q0 29 [vd, lv] ∧ OW wx W40.heap.size 3 eInt lv acc ∧ Kf (fun b => b = Q0) W40 wx ∧ acc ++ leftF s.m f i = leftM s.m
/-- What is done of a deed; of the first hands. -/
def flD (dl : List (Nat × Nat × Dn)) (i e : Nat) : List (Nat × Nat × Dn) := dl.filter fun x => x.1 == i && x.2.1 == e
def flO (P : List (List Dd)) (dl : List (Nat × Nat × Dn)) (k : Nat) : List (Nat × Nat × Dn) := (List.range k).flatMap fun i => (List.range (ndl P i)).flatMap (flD dl i)
theorem flO_succ (P : List (List Dd)) (dl : List (Nat × Nat × Dn)) (k : Nat) : flO P dl (k + 1) = flO P dl k ++ (List.range (ndl P k)).flatMap (flD dl k) := by
  unfold flO; rw [List.range_succ, List.flatMap_append]; simp
theorem flD_take (dl : List (Nat × Nat × Dn)) (i e j : Nat) (hj : j < dl.length) : (dl.take (j + 1)).filter (fun x => x.1 == i && x.2.1 == e) = (dl.take j).filter (fun x => x.1 == i && x.2.1 == e) ++ (if (dl[j].1 == i && dl[j].2.1 == e) = true then [dl[j]] else []) := by
  rw [List.take_succ_eq_append_getElem hj, List.filter_append, List.filter_cons]
  simp only [List.filter_nil]
theorem flO_all {P : List (List Dd)} {t : Nat → List Dn} {dl : List (Nat × Nat × Dn)} (h : DB t dl) (hg : ∀ i, (t i).length ≤ ndl P i) (k : Nat) : flO P dl k = (List.range k).flatMap fun i => toldL i (t i) := by
  unfold flO
  congr 1
  funext i
  exact h.done (hg i)
/-- The told's block; what it holds so far. -/
def CvRel (Q0 : Nat) (W30 : World) (dv : Value) (acc : List (Nat × Nat × Dn)) (wx : World) : Prop := BC wx Q0 29 [dv, .slice none 0 0] ∧ OW wx W30.heap.size 35 eDone dv acc ∧ Kf (fun b => b = Q0) W30 wx
theorem CvRel.kpw {Q0 : Nat} {W30 : World} {dv : Value} {acc : List (Nat × Nat × Dn)} {wx wy : World} (h : CvRel Q0 W30 dv acc wx) (k : Kp wx wy) : CvRel Q0 W30 dv acc wy := ⟨h.1.kp k, h.2.1.kp k, h.2.2.on k⟩
theorem CvRel.app {Q0 : Nat} {W30 : World} {v v' : Value} {acc acc' : List (Nat × Nat × Dn)} {wx wy wz : World} (h : CvRel Q0 W30 v acc wx) (k : Kp wx wy) (ho : OW wz W30.heap.size 35 eDone v' acc') (hg : wy.grownBy wz v.ownBlock) :
    wz.cell? ⟨Q0, 0, none⟩ = some v ∧ wz.frozen? ⟨Q0, 0, none⟩ = false ∧ CvRel Q0 W30 v' acc' (wz.setCell ⟨Q0, 0, none⟩ v') := by
  have h1 := h.kpw k
  have hn : v.ownBlock ≠ some Q0 := OW.bc_ne h1.2.1 h1.1 (by decide)
  have h2 : BC wz Q0 29 _ := h1.1.kf (F := fun b => v.ownBlock = some b) (Kf.app (Kf.refl _ _) hg fun k e => .inl e) hn
  refine ⟨h2.cell 0, h2.frozen 0, h2.set (j := 0) (u := v'), ho.setCell (OW.bc_ne ho h2 (by decide)) _, ?_⟩
  exact (Kf.app h1.2.2 hg fun j e => .inr (h1.2.1.lt j e).1).set (.inl rfl)
def CoRel (P : List (List Dd)) (dl : List (Nat × Nat × Dn)) (Q0 : Nat) (W30 : World) (iv : Value) (wx : World) : Prop :=
  ∃ (k : Nat) (dv : Value), k ≤ P.length ∧ iv = .int .i64 k ∧ (flO P dl k).length ≤ k * 20000 ∧ CvRel Q0 W30 dv (flO P dl k) wx
def CmRel (P : List (List Dd)) (dl : List (Nat × Nat × Dn)) (k : Nat) (Q0 : Nat) (W30 : World) (iv : Value) (wx : World) : Prop :=
  ∃ (m : Nat) (dv : Value) (acc : List (Nat × Nat × Dn)), m ≤ ndl P k ∧ iv = .int .i64 m ∧ acc = flO P dl k ++ (List.range m).flatMap (flD dl k) ∧ acc.length ≤ k * 20000 + m * 5000 ∧ CvRel Q0 W30 dv acc wx
def CiRel (P : List (List Dd)) (dl : List (Nat × Nat × Dn)) (k m : Nat) (Q0 : Nat) (W30 : World) (iv : Value) (wx : World) : Prop :=
  ∃ (j : Nat) (dv : Value) (acc : List (Nat × Nat × Dn)), j ≤ dl.length ∧ iv = .int .i64 j ∧ acc = flO P dl k ++ (List.range m).flatMap (flD dl k) ++ (dl.take j).filter (fun x => x.1 == k && x.2.1 == m) ∧ acc.length ≤ k * 20000 + m * 5000 + j ∧ CvRel Q0 W30 dv acc wx
set_option maxRecDepth 100000 in
set_option maxHeartbeats 8000000 in
theorem handled_any (alg : Nat) (l : List Int) (P : List (List Dd)) (o : List Int) (vl vp vo : Value) (w : World) (hl : RD w eInt vl l) (hp : RDS w eDeed vp P) (ho : RD w eInt vo o) (hr : rgF alg l P o.length = 0) :
    Calls Try.prog 14 #[.int .i64 alg, vl, vp, vo] w (HdPost alg l P o w) := by
  obtain ⟨PO, hPO⟩ : ∃ PO, PO = HdPost alg l P o w := ⟨_, rfl⟩
  rw [← hPO]
  have HPO := hide hPO
  clear hPO
  obtain ⟨ha, hn5, ok⟩ := rgF_ok hr
  have hl10 := BM.len ok
  have HOK := hide ok
  have hP4 := ok.len
  obtain ⟨A1, c1, rfl, hc1, _⟩ := hl.shape
  obtain ⟨A2, c2, pA, pN, pC, rfl, hc2, hm2, hpr⟩ := hp.fn
  obtain ⟨A3, c3, rfl, hc3, _⟩ := ho.shape
  have HL := hide hl
  have HO := hide ho
  have HPS := hide hp
  have HPR := hide hpr
  have HA := hide (show 1 ≤ alg ∧ alg ≤ 4 by omega)
  have HK9 : Hid (∀ x ∈ l, x ≤ 9) := hide (fun x hx => (ok.keys x hx).2)
  clear hl hp ho hr ha ok hpr
  obtain ⟨CM, HCM, hmk⟩ := run_mk (P := Try.prog) row_hs ((0, hd0) : Hs) zero_hs P.length (by omega) (by simp [maxLen]; omega)
  go_enter Try.func14, Try.ntmps14
  go_upto_region 2 with fail
  obtain ⟨W1, hW1⟩ : ∃ W, W = ((((w.alloc (.cells #[.slice none 0 0, .slice none 0 0] 29)).alloc (.cells CM 79)).alloc (.cells #[.int .i64 (-1), .int .i64 1, .bool false, .bool false] 65)).alloc (.cells #[.int .i64 alg, .slice (some ⟨w.heap.size + 1 + 1, 0, none⟩) 1 1, .slice (some ⟨w.heap.size + 1, 0, none⟩) P.length P.length, .slice A2 P.length c2, .int .i64 0, .slice none 0 0] 68)) := ⟨_, rfl⟩
  rw [← hW1]
  have hcm : CM = ((handL (st0 l) P.length).flatMap eHs.cells).toArray := by
    have e := HCM.out
    rw [e]
    congr 2
    unfold handL
    exact List.ext_getElem (by simp) fun i _ _ => by simp [st0]
  subst hcm
  have hall : ∀ i {t : TypeId} {cs : List Value}, ([.cells #[.slice none 0 0, .slice none 0 0] 29, .cells ((handL (st0 l) P.length).flatMap eHs.cells).toArray 79, .cells #[.int .i64 (-1), .int .i64 1, .bool false, .bool false] 65, .cells #[.int .i64 alg, .slice (some ⟨w.heap.size + 1 + 1, 0, none⟩) 1 1, .slice (some ⟨w.heap.size + 1, 0, none⟩) P.length P.length, .slice A2 P.length c2, .int .i64 0, .slice none 0 0] 68] : List Obj)[i]? = some (.cells cs.toArray t (0, 0)) → BC W1 (w.heap.size + i) t cs := by
    intro i t cs h
    rw [hW1]
    exact BC.made _ w i h
  have hR : BC W1 w.heap.size 29 [.slice none 0 0, .slice none 0 0] := hall 0 rfl
  have hH : BC W1 (w.heap.size + 1) 79 ((handL (st0 l) P.length).flatMap eHs.cells) := hall 1 rfl
  have hG : AR W1 (w.heap.size + 1 + 1) 65 eBead [((-1, 1, false, false) : Bd)] := hall 2 (cs := [.int .i64 (-1), .int .i64 1, .bool false, .bool false]) rfl
  have hB : BC W1 (w.heap.size + 1 + 1 + 1) 68 [.int .i64 alg, .slice (some ⟨w.heap.size + 1 + 1, 0, none⟩) 1 1, .slice (some ⟨w.heap.size + 1, 0, none⟩) P.length P.length, .slice A2 P.length c2, .int .i64 0, .slice none 0 0] := hall 3 rfl
  have k1 : Kp w W1 := by rw [hW1]; exact (Kp.refl w).alloc.alloc.alloc.alloc
  clear hall hW1 HCM hmk
  obtain ⟨bb, hbb⟩ : ∃ x, x = w.heap.size + 1 + 1 + 1 := ⟨_, rfl⟩
  rw [← hbb] at hB ⊢
  obtain ⟨g0, hg0⟩ : ∃ x, x = w.heap.size + 1 + 1 := ⟨_, rfl⟩
  rw [← hg0] at hB hG ⊢
  obtain ⟨hg, hhg⟩ : ∃ x, x = w.heap.size + 1 := ⟨_, rfl⟩
  rw [← hhg] at hB hH ⊢
  obtain ⟨R0, hR0⟩ : ∃ x, x = w.heap.size := ⟨_, rfl⟩
  rw [← hR0] at hR ⊢
  have hBO : OW W1 w.heap.size 65 eBead (.slice (some ⟨g0, 0, none⟩) 1 1) (preB l 0) := hG.ow (by omega) (by simp [maxLen])
  have HZ := hide (And.intro (show w.heap.size ≤ R0 by omega) (And.intro (show w.heap.size ≤ hg by omega) (And.intro (show w.heap.size ≤ g0 by omega) (show w.heap.size ≤ bb by omega))))
  have HG : Hid (BC W1 g0 65 [.int .i64 (-1), .int .i64 1, .bool false, .bool false]) := hide hG
  have HR := hide hR
  have HH := hide hH
  have HB := hide hB
  have HBO := hide hBO
  have HK1 := hide k1
  clear hR hH hG hB hBO k1 hbb hg0 hhg hR0
  have HB0 : Hid (W1.heap.size ≤ W1.heap.size) := hide (Nat.le_refl _)
  go_wp2_with fail
  refine (cloneInts_any l _ W1 (HL.out.kp HK1.out) (by omega)).mono ?_
  rintro e w2 ⟨cv, rfl, hco, hk2⟩
  have hk2 : Kp W1 w2 := hk2
  obtain ⟨cA, cN, cC, rfl⟩ := hco.rd.slice
  have HCO := hide hco
  have hHi := hco.hi
  have HK2 := hide hk2
  have HM1 : Hid ((l.length + [(10 : Int)].length) * 8 ≤ 140737488355328) := hide (by simp; omega)
  have HM2 : Hid (l.length + [(10 : Int)].length ≤ maxLen) := hide (by simp [maxLen]; omega)
  clear hco hk2
  go_wp2_with (at_builtin; (with_reducible refine list_app (B := W1.heap.size) (l := l) (m := [10]) row_int (.slice cA cN cC) ?_ (.tmp 32) (.tmp 33) ?_ ?_ ?_ ?_ HM1.out HM2.out ?_ ?_); (with_reducible rfl); (with_reducible rfl); rfl; (exact HCO.out.alloc _); (show RD _ _ (.slice (some ⟨_, 0, none⟩) 1 1) _; (focus ((repeat (first | (with_reducible assumption) | exact RD.new1 _ rfl | (refine RD.new1e _ ?_ rfl; simp; done) | (with_reducible apply RD.alloc) | (with_reducible apply RD.drew) | (with_reducible apply RD.drewN) | ((with_reducible apply RD.belowR); (with_reducible assumption)))); done))); (exact (HK2.out.alloc).size); intro v3 w3 ho3 hg3 hat3; obtain ⟨A5, c5, rfl, hc5, hc6⟩ := ho3.rd.shape)
  have hk3 : Kp W1 w3 := Kp.app hg3 HK2.out.alloc hHi
  have hn1 : (l ++ [10]).length = l.length + 1 := by simp
  rw [hn1] at ho3 hc5
  obtain ⟨L1, hL1⟩ : ∃ L1, L1 = l ++ [10] := ⟨_, rfl⟩
  rw [← hL1] at ho3 hn1
  have HL1 := hide hL1
  have HN1 := hide hn1
  have HC := hide ho3.rd
  have HCB : Hid (∀ k, (Value.slice A5 (l.length + 1) c5).ownBlock = some k → W1.heap.size ≤ k) := hide (fun k e => (ho3.lt k e).1)
  have HK3 := hide hk3
  have HST : Hid (B1Rel w w3 bb g0 hg P.length alg (.slice A2 P.length c2) l (.int .i64 0) w3) := hide ⟨0, _, Nat.zero_le _, rfl, Kf.refl _ _, HB.out.kp hk3, HBO.out.kp hk3, fun k e => .inl (by simpa [Value.ownBlock] using e.symm)⟩
  clear hat3 hg3 HK2 HCO hHi ho3 hc6 hL1 hn1 hk3 HM1 HM2 hk2
  go_loopw [36] (fun iv wx => B1Rel w w3 bb g0 hg P.length alg (.slice A2 P.length c2) l iv wx) (fun iv _ => l.length + 1 - (intOf iv).toNat)
  case atStart => exact HST.out
  case round =>
    obtain ⟨k, bv, hk, rfl, h1⟩ := hrel
    have hbz := HB.out.lt
    have hgz := HG.out.lt
    by_cases hlt : k < l.length + 1
    · have hc' := HC.out.kf h1.kf (fun _ j e1 e2 => by have := HCB.out j e1; rcases e2 with e2 | e2 <;> omega)
      obtain ⟨b5, o5, e, -, x0⟩ := hc'.int (k := k) (by rw [HN1.out]; exact hlt)
      obtain ⟨x, hx⟩ : ∃ x, x = L1[k]'(by rw [HN1.out]; exact hlt) := ⟨_, rfl⟩
      rw [← hx] at x0
      have hxp : preB l (k + 1) = preB l k ++ [(x, ((k + 2 : Nat) : Int), false, false)] := by
        rw [preB_succ, hx, ← HL1.out]
        simp [List.getD_eq_getElem?_getD, show k < L1.length by rw [HN1.out]; exact hlt]
      obtain ⟨xA, xN, xC, rfl⟩ := h1.ow.rd.slice
      have x1 : wr.cell? ⟨bb, 1, none⟩ = some (.slice xA xN xC) := h1.bb.cell 1
      have hne : (Value.slice xA xN xC).ownBlock ≠ some bb := OW.bc_ne h1.ow h1.bb (by decide)
      have HTB : Hid (∀ w4, (wr.alloc (.cells #[.int .i64 x, .int .i64 ((k + 2 : Nat) : Int), .bool false, .bool false] 65)).grownBy w4 (Value.slice xA xN xC).ownBlock → w4.cell? ⟨bb, 1, none⟩ = some (.slice xA xN xC) ∧ w4.frozen? ⟨bb, 1, none⟩ = false) := hide (by
        intro w4 hg4
        have h2 : BC w4 bb 68 _ := (h1.bb.kp (Kp.refl wr).alloc).kf (F := fun b => (Value.slice xA xN xC).ownBlock = some b) (Kf.app (Kf.refl _ _) hg4 fun k e => .inl e) hne
        exact ⟨h2.cell 1, h2.frozen 1⟩)
      have HPU : Hid (∀ v' w4, OW w4 w.heap.size 65 eBead v' (preB l k ++ [(x, ((k + 2 : Nat) : Int), false, false)]) → (wr.alloc (.cells #[.int .i64 x, .int .i64 ((k + 2 : Nat) : Int), .bool false, .bool false] 65)).grownBy w4 (Value.slice xA xN xC).ownBlock → (v'.ownBlock = (Value.slice xA xN xC).ownBlock ∨ v'.ownBlock = some (wr.alloc (.cells #[.int .i64 x, .int .i64 ((k + 2 : Nat) : Int), .bool false, .bool false] 65)).heap.size) →
          B1 w w3 bb g0 hg P.length alg (.slice A2 P.length c2) v' (preB l (k + 1)) (w4.setCell ⟨bb, 1, none⟩ v')) := hide (by
        intro v' w4 ho4 hg4 hat4
        have h2 : BC w4 bb 68 _ := (h1.bb.kp (Kp.refl wr).alloc).kf (F := fun b => (Value.slice xA xN xC).ownBlock = some b) (Kf.app (Kf.refl _ _) hg4 fun k e => .inl e) hne
        have hz := h1.kf.size
        have hsz : wr.heap.size ≤ (wr.alloc (.cells #[.int .i64 x, .int .i64 ((k + 2 : Nat) : Int), .bool false, .bool false] 65)).heap.size := (Kp.refl wr).alloc.size
        have hn4 : v'.ownBlock ≠ some bb := OW.bc_ne ho4 h2 (by decide)
        refine ⟨(Kf.app (h1.kf.on (Kp.refl wr).alloc) hg4 fun k e => ?_).set (.inl (.inl rfl)), h2.set (j := 1) (u := v'), by rw [hxp]; exact ho4.setCell hn4 _, fun k e => ?_⟩
        · rcases h1.at_ k e with e1 | e1
          · exact .inl (.inr e1)
          · exact .inr e1
        · rcases hat4 with e1 | e1
          · exact h1.at_ k (e1.symm.trans e)
          · rw [e1] at e
            injection e with e
            exact .inr (by omega))
      have HM1 : Hid (((preB l k).length + [((x, ((k + 2 : Nat) : Int), false, false) : Bd)].length) * 24 ≤ 140737488355328) := hide (by rw [preB_len]; simp; omega)
      have HM2 : Hid ((preB l k).length + [((x, ((k + 2 : Nat) : Int), false, false) : Bd)].length ≤ maxLen) := hide (by rw [preB_len]; simp [maxLen]; omega)
      have HO1 := hide h1.ow
      have HWZ : Hid (w.heap.size ≤ wr.heap.size) := hide (by have h := HK1.out.size; have h' := HK3.out.size; have := h1.kf.size; omega)
      have HLT := hide hlt
      have wk : IntKind.i64.wrap ((k : Int) + 2) = ((k + 2 : Nat) : Int) := by rw [show ((k + 2 : Nat) : Int) = (k : Int) + 2 by omega]; exact IntWalk.i64_in _ (by omega)
      have hlti : (k : Int) < ((l.length + 1 : Nat) : Int) := by omega
      have hlti2 : (k : Int) < (l.length : Int) + 1 := by omega
      cases e
      clear hx hxp hne h1 hc' hbz hgz
      go_wp2_with (at_builtin; (with_reducible refine list_app (B := w.heap.size) (l := (preB l k)) (m := [((x, ((k + 2 : Nat) : Int), false, false) : Bd)]) row_bead (.slice xA xN xC) ?_ (.tmp 45) (.tmp 50) ?_ ?_ ?_ ?_ HM1.out HM2.out ?_ ?_); (with_reducible rfl); (with_reducible rfl); rfl; (exact HO1.out.alloc _); (show RD _ _ (.slice (some ⟨_, 0, none⟩) 1 1) _; (focus ((repeat (first | (with_reducible assumption) | exact RD.new1 _ rfl | (refine RD.new1e _ ?_ rfl; simp; done) | (with_reducible apply RD.alloc) | (with_reducible apply RD.drew) | (with_reducible apply RD.drewN) | ((with_reducible apply RD.belowR); (with_reducible assumption)))); done))); (exact Nat.le_trans HWZ.out ((Kp.refl wr).alloc).size); intro v4 w4 ho4 hg4 hat4; obtain ⟨x13, f13⟩ := HTB.out w4 hg4; obtain ⟨A6, N6, c6, rfl⟩ := ho4.rd.slice)
      go_roundw
      case rel => exact ⟨k + 1, _, by have := HLT.out; omega, by go_num, HPU.out _ _ ho4 hg4 hat4⟩
      case measure => simp [intOf]; have := HLT.out; omega
    · obtain rfl : k = l.length + 1 := by omega
      obtain ⟨g, gc, rfl, -⟩ := h1.ow.blk (by rw [preB_len]; omega)
      have hpl : (preB l (l.length + 1)).length = l.length + 2 := preB_len _ _
      rw [hpl] at h1
      obtain ⟨v4, x4⟩ : ∃ v, wr.cell? ⟨g, (l.length + 1) * 4 + 1, none⟩ = some v := by
        obtain ⟨xl, x4⟩ := h1.ow.cellAt (l.length + 1) (by rw [hpl]; omega) 1 (by decide)
        exact ⟨_, xl⟩
      have x1 : wr.cell? ⟨bb, 1, none⟩ = some (.slice (some ⟨g, 0, none⟩) (l.length + 2) gc) := h1.bb.cell 1
      obtain ⟨cur, hgb, hgw, -⟩ := BK.of_ow h1.ow
      have hgb : BC wr g 65 cur := hgb
      have f4 : wr.frozen? ⟨g, (l.length + 1) * 4 + 1, none⟩ = false := hgb.frozen _
      have HBM : Hid (BM ((⟨w, bb, hg, P.length, alg, .slice A2 P.length c2, fun _ _ _ => False⟩ : Bl).add R0 29 [.slice none 0 0, .slice none 0 0]) P l (st0 l) (wr.drew.setCell ⟨g, (l.length + 1) * 4 + 1, none⟩ (.int .i64 (-1)))) := hide (by
        have hkw := h1.kf.kp (HK1.out.trans HK3.out) (fun b e => by rcases e with e | e <;> (rw [e]; have := HZ.out; omega))
        have kd : Kp wr wr.drew := (Kp.refl wr).drew
        have hgd := hgb.kp kd
        have hs := (HH.out.kp HK3.out).kf h1.kf (fun e => by rcases e with e | e; exact BC.ne HH.out HB.out (by decide) e; exact BC.ne HH.out HG.out (by decide) e)
        have hr := (HR.out.kp HK3.out).kf h1.kf (fun e => by rcases e with e | e; exact BC.ne HR.out HB.out (by decide) e; exact BC.ne HR.out HG.out (by decide) e)
        have hbd := (h1.ow.kp kd).setAt (l.length + 1) (by rw [hpl]; omega) 1 (by decide) (.int .i64 (-1)) ((10, -1, false, false) : Bd) (by
          have e : (preB l (l.length + 1))[l.length + 1]'(by rw [hpl]; omega) = (10, ((l.length + 2 : Nat) : Int), false, false) := by
            rw [preB_at _ _ _ (by omega)]; simp
          rw [e]; rfl)
        rw [preB_end HK9.out] at hbd
        have hz := HZ.out
        refine ⟨⟨[], DB.nil, Nat.le_refl _, g, gc, .slice none 0 0, ⟨(hkw.trans kd).setR hgw, hz.2.2.2, hz.2.1, by show 0 < l.length + 2; omega, (h1.bb.kp kd).far (BC.ne h1.bb hgb (by decide)), hbd, OW.nil, (hs.kp kd).far (BC.ne hs hgb (by decide)), ?_⟩⟩, HPS.out, HOK.out, winv0 HOK.out HA.out.1 HA.out.2, rfl, HA.out, fun i => ⟨by show 0 < l.length + 2; omega, by show 0 < l.length + 2; omega⟩, Nat.le_refl _, fun i => Nat.zero_le _, fun i => .inl rfl, fun i => Nat.zero_le _⟩
        rintro b t c (e | ⟨rfl, rfl, rfl⟩)
        · cases e
        · exact ⟨(hr.kp kd).far (BC.ne hr hgb (by decide)), by unfold okBT; decide⟩)
      obtain ⟨n1, hn1⟩ : ∃ n, n = l.length + 1 := ⟨_, rfl⟩
      obtain ⟨n2, hn2⟩ : ∃ n, n = l.length + 2 := ⟨_, rfl⟩
      have hlti : ¬ ((l.length : Int) + 1) < (l.length : Int) + 1 := by omega
      have wn : IntKind.i64.wrap ((n2 : Int) - 1) = (n1 : Int) := by rw [show (n1 : Int) = (n2 : Int) - 1 by omega]; exact IntWalk.i64_in _ (by omega)
      have hn12 : (n1 : Int) < (n2 : Int) := by omega
      rw [← hn2] at x1
      rw [← hn1] at x4 f4 HBM
      clear h1 hgb hgw hpl hbz hgz hlt hk hn1 hn2
      go_upto_region 7 with fail
      go_still_tail 12, (by kernel_rfl)
      change wpList _ _ _ _ _ wr.drew
      obtain ⟨w5, hw5⟩ : ∃ x, x = wr.drew := ⟨_, rfl⟩
      have x4 : w5.cell? ⟨g, n1 * 4 + 1, none⟩ = some v4 := (by rw [hw5]; exact x4)
      have f4 : w5.frozen? ⟨g, n1 * 4 + 1, none⟩ = false := (by rw [hw5]; exact f4)
      rw [← hw5] at HBM ⊢
      obtain ⟨K, hK⟩ : ∃ K, K = (⟨w, bb, hg, P.length, alg, .slice A2 P.length c2, fun _ _ _ => False⟩ : Bl).add R0 29 [.slice none 0 0, .slice none 0 0] := ⟨_, rfl⟩
      rw [← hK] at HBM
      have HK := hide hK
      clear hw5 hK x1 HBO HB HG HR HH HC HCB HST HK3 HN1 HL1 HB0
      go_wp2
      have eb : K.b = bb := by rw [HK.out]; rfl
      go_loopw [69] (fun iv wx => HoRel K P l o iv wx) (fun iv _ => o.length - (intOf iv).toNat)
      case atStart => exact ⟨0, Nat.zero_le _, rfl, HBM.out, Nat.zero_le _⟩
      case round =>
        obtain ⟨j, hj, rfl, hR, hnw⟩ := hrel
        by_cases hjl : j < o.length
        · obtain ⟨b, oo, e, _, x0⟩ := (HO.out.kp (by have := hR.kp; rw [HK.out] at this; exact this)).int hjl
          have htk := ordS_take K.alg P o (st0 l) j hjl
          obtain ⟨x, hx⟩ : ∃ x, x = o[j]'hjl := ⟨_, rfl⟩
          rw [← hx] at x0 htk
          have HTK := hide htk
          have HR := hide hR
          have HNW := hide hnw
          have s85 : IntKind.i64.wrap ((P.length : Int) - 1) = (P.length : Int) - 1 := IntWalk.i64_in _ (by omega)
          have hjli : (j : Int) < (o.length : Int) := by omega
          have HJL := hide hjl
          cases e
          clear hx htk hR hnw
          go_wp2_with fail
          refine (between_any x 0 ((P.length : Int) - 1) _).mono ?_
          rintro e w6 ⟨rfl, rfl⟩
          by_cases hin : 0 ≤ x ∧ x ≤ (P.length : Int) - 1
          · have hb := (btw_iff x 0 ((P.length : Int) - 1)).2 hin
            obtain ⟨i, rfl⟩ : ∃ i : Nat, x = (i : Int) := ⟨x.toNat, by omega⟩
            have hil : i < P.length := by omega
            have e1 := HTK.out.trans (if_pos ⟨by omega, by omega⟩)
            rw [Int.toNat_natCast] at e1
            have HTK1 := hide e1
            have HSP := hide (bstep_any HR.out hil (by have := HNW.out; omega))
            have HLE := hide (stpO_le (alg := K.alg) (P := P) (s := ordS K.alg P (o.take j) (st0 l)) (i := i)).1
            rw [hb]
            rw [eb] at HSP
            clear hin hb e1 hil HTK
            unfold ptr at HSP
            go_wp2_with fail
            refine HSP.out.mono ?_
            rintro e w7 ⟨rfl, hR4⟩
            rw [← HTK1.out] at hR4
            have HR4 := hide hR4
            clear hR4
            go_wp2
            go_roundw
            case rel => exact ⟨j + 1, by have := HJL.out; omega, by go_num, HR4.out, by rw [HTK1.out]; have := HLE.out; have := HNW.out; omega⟩
            case measure => simp [intOf]; have := HJL.out; omega
          · have hb : btw x 0 ((P.length : Int) - 1) = false := by
              cases hq : btw x 0 ((P.length : Int) - 1) with
              | false => rfl
              | true => exact absurd ((btw_iff _ _ _).1 hq) hin
            have HTK1 := hide (HTK.out.trans (if_neg (fun h => hin ⟨h.1, by omega⟩)))
            rw [hb]
            clear hin hb HTK
            go_wp2
            go_roundw
            case rel => exact ⟨j + 1, by have := HJL.out; omega, by go_num, by rw [HTK1.out]; exact HR.out, by rw [HTK1.out]; have := HNW.out; omega⟩
            case measure => simp [intOf]; have := HJL.out; omega
        · rw [List.take_of_length_le (by omega)] at hR hnw
          obtain ⟨s1, hs1⟩ : ∃ s1, s1 = ordS K.alg P o (st0 l) := ⟨_, rfl⟩
          rw [← hs1] at hR hnw
          have HS1 := hide hs1
          have HR1 := hide hR
          have HN1 : Hid (s1.now ≤ 5000) := hide (by omega)
          clear hs1 hR hnw HBM
          go_wp2
          go_loopg [14] 4001 (fun g sv wx => HtRel K P l s1 g sv wx)
          case atStart => exact ⟨true, s1, 0, rfl, HR1.out, rfl, (fun e => by cases e), HN1.out, (by simp)⟩
          case round =>
            obtain ⟨b, s, kk, rfl, hR, hit, hfin, hnow, hg⟩ := hrel
            cases b with
            | true =>
              have HIT := hide hit
              have HG1 := hide hg
              have HNO := hide hnow
              have HR := hide hR
              clear hR hit hfin hnow hg HS1 HR1
              go_wp2
              go_loopw [14, 85] (fun sv iv wx => HiRel K P l s sv iv wx) (fun _ iv _ => P.length - (intOf iv).toNat)
              case atStart => exact ⟨0, false, s, Nat.zero_le _, rfl, rfl, rfl, by simp, HR.out, Nat.le_refl _, fun _ => rfl, fun h => absurd h (Nat.lt_irrefl _), HNO.out⟩
              case round =>
                obtain ⟨j, fb, s', hj, rfl, rfl, hs', hfb, hR, hle, heq, hlt4, hn5⟩ := hrel
                by_cases hjl : j < P.length
                · have t3 := hR.now
                  rw [eb] at t3
                  have HR := hide hR
                  have htk := rnd_take K.alg P s j
                  rw [← hs'] at htk
                  have hjli : (j : Int) < (P.length : Int) := by omega
                  have HX := hide (And.intro hfb (And.intro hle (And.intro heq (And.intro hlt4 (And.intro hn5 hjl)))))
                  by_cases h4 : s'.now < 4000
                  · have HTK : Hid (stpO K.alg P s' j = (List.range (j + 1)).foldl (stpL K.alg P) s) := hide (by rw [htk]; unfold stpL; rw [if_pos h4])
                    have HSP := hide (bstep_any hR hjl (by omega))
                    rw [eb] at HSP
                    have d4 : decide ((s'.now : Int) < 4000) = true := decide_eq_true (by omega)
                    cases hc : can P s' j with
                    | true =>
                      have hn : (stpO K.alg P s' j).now = s'.now + 1 := by
                        rw [stpO_can hc]; unfold stp; simp only []; split <;> rfl
                      rw [hc] at HSP
                      have HN := hide hn
                      have HH4 := hide h4
                      obtain ⟨s2, hs2⟩ : ∃ s2, s2 = stpO K.alg P s' j := ⟨_, rfl⟩
                      rw [← hs2] at HTK HSP HN
                      clear hR htk hfb hle heq hlt4 hn5 hs' h4 hc hn hs2 HR hjl
                      unfold ptr at HSP
                      go_wp2_with fail
                      refine HSP.out.mono ?_
                      rintro e w4 ⟨rfl, hR4⟩
                      have HR4 := hide hR4
                      clear hR4
                      go_wp2
                      go_roundw
                      case rel =>
                        skip
                        obtain ⟨a1, a2, a3, a4, a5, a6⟩ := HX.out
                        have a7 := HN.out
                        have a8 := HH4.out
                        exact ⟨j + 1, true, s2, by omega, by go_num, rfl, HTK.out, ⟨fun _ => by omega, fun _ => rfl⟩, HR4.out, by omega, fun h => by omega, fun _ => by omega, by omega⟩
                      case measure => simp [intOf]; have := HX.out.2.2.2.2.2; omega
                    | false =>
                      rw [stpO_cannot _ _ _ _ hc] at HTK HSP
                      rw [hc] at HSP
                      clear hR htk hfb hle heq hlt4 hn5 hs' h4 hc HR hjl
                      unfold ptr at HSP
                      go_wp2_with fail
                      refine HSP.out.mono ?_
                      rintro e w4 ⟨rfl, hR4⟩
                      have HR4 := hide hR4
                      clear hR4
                      go_wp2
                      go_roundw
                      case rel =>
                        skip
                        obtain ⟨a1, a2, a3, a4, a5, a6⟩ := HX.out
                        exact ⟨j + 1, fb, s', by omega, by go_num, rfl, HTK.out, a1, HR4.out, a2, a3, a4, a5⟩
                      case measure => simp [intOf]; have := HX.out.2.2.2.2.2; omega
                  · have HTK : Hid (s' = (List.range (j + 1)).foldl (stpL K.alg P) s) := hide (by rw [htk]; unfold stpL; rw [if_neg h4])
                    have d4 : decide ((s'.now : Int) < 4000) = false := decide_eq_false (by omega)
                    clear hR htk hfb hle heq hlt4 hn5 hs' h4 hjl
                    go_wp2
                    go_roundw
                    case rel =>
                      skip
                      obtain ⟨a1, a2, a3, a4, a5, a6⟩ := HX.out
                      exact ⟨j + 1, fb, s', by omega, by go_num, rfl, HTK.out, a1, HR.out, a2, a3, a4, a5⟩
                    case measure => simp [intOf]; have := HX.out.2.2.2.2.2; omega
                · have hr : s' = rnd K.alg P s := by rw [hs', show j = P.length by omega]; rfl
                  have HREL : Hid (HtRel K P l s1 (gk - 1) (.bool fb) wr) := hide (by
                    have hg := HG1.out
                    simp only [if_true] at hg
                    refine ⟨fb, s', kk + 1, rfl, hR, ?_, fun e => ?_, hn5, ?_⟩
                    · rw [hr, HIT.out]; rfl
                    · have h1 : ¬ s.now < s'.now := fun h => by rw [hfb.2 h] at e; cases e
                      have h2 := heq (by omega)
                      rw [h2] at hr ⊢
                      exact hr.symm
                    · cases fb with
                      | true =>
                        have h1 := hfb.1 rfl
                        have h2 := hlt4 h1
                        simp only [if_true]
                        omega
                      | false =>
                        simp
                        omega)
                  have HGP : Hid (0 < gk) := hide (by have hg := HG1.out; simp only [if_true] at hg; omega)
                  have hjli : ¬ (j : Int) < (P.length : Int) := by omega
                  clear hR hle heq hlt4 hn5 hs' hfb hr hjl
                  go_wp2
                  go_roundg (gk - 1)
                  case measure => have := HGP.out; omega
                  case rel => exact HREL.out
            | false =>
              have hfin := hfin rfl
              have HFIN : Hid (FinR alg P s1 s) := hide (by have e : K.alg = alg := by rw [HK.out]; rfl
                                                            rw [e] at hit hfin; exact ⟨kk, hit, hfin⟩)
              have HN5 := hide hnow
              clear hit hfin hg HR1
              obtain ⟨dl, hdb, hln, bg, bc, dvv, hb⟩ := hR.ex
              obtain ⟨dA, dC, rfl, hdc, -⟩ := hb.dn.rd.shape
              have hb5 : wr.cell? ⟨bb, 5, none⟩ = some (.slice dA dl.length dC) := by have := hb.bb.cell 5; rw [eb] at this; exact this
              have hb1 : wr.cell? ⟨bb, 1, none⟩ = some (.slice (some ⟨bg, 0, none⟩) s.m.n bc) := by have := hb.bb.cell 1; rw [eb] at this; exact this
              have kq : Kp wr (wr.alloc (.cells #[.slice none 0 0, .slice none 0 0] 29)) := (Kp.refl wr).alloc
              have hr0 : BC wr R0 29 [.slice none 0 0, .slice none 0 0] := by have h := hb; rw [HK.out] at h; exact h.added
              have hkw : Kp w wr := by have := hb.kp; rw [HK.out] at this; exact this
              obtain ⟨cur9, hbg, -⟩ := hb.bgB
              have HDL : Hid (dl.length ≤ 5000) := hide (by omega)
              have HDB : Hid (flO P dl P.length = doneL s P.length) := hide (flO_all hdb hR.gn P.length)
              have HMW := hide hR.inv.mw
              have HBE : Hid (∀ i, i < s.m.n → wr.cell? ⟨bg, i * 4, none⟩ = some (.int .i64 (s.m.ky i)) ∧ wr.cell? ⟨bg, i * 4 + 1, none⟩ = some (.int .i64 (nxt s.m i)) ∧ wr.cell? ⟨bg, i * 4 + 2, none⟩ = some (.bool (s.m.mr i))) := hide (fun i hi => by
                obtain ⟨a1, a2, a3, -⟩ := hb.bead hi
                exact ⟨a1, a2, a3⟩)
              have HLT : Hid (bb < wr.heap.size ∧ bg < wr.heap.size ∧ R0 < wr.heap.size ∧ ∀ k, (Value.slice dA dl.length dC).ownBlock = some k → k < wr.heap.size) := hide ⟨by have := hb.bb.lt; rw [eb] at this; exact this, hbg.lt, hr0.lt, fun k e => (hb.dn.lt k e).2⟩
              have HDR := hide hb.dn.rd
              have HB1 := hide hb1
              have HB5 := hide hb5
              have HR0 := hide hr0
              have HKW := hide hkw
              have HKQ := hide kq
              have HQB : Hid (BC (wr.alloc (.cells #[.slice none 0 0, .slice none 0 0] 29)) wr.heap.size 29 [.slice none 0 0, .slice none 0 0]) := hide (BC.new wr 29 [.slice none 0 0, .slice none 0 0])
              clear hdb hln hb hdc hb5 hb1 kq hr0 hkw hbg hR hnow
              go_wp2
              obtain ⟨W30, hW30⟩ : ∃ W30, W30 = wr.alloc (.cells #[.slice none 0 0, .slice none 0 0] 29) := ⟨_, rfl⟩
              obtain ⟨Q0, hQ0⟩ : ∃ Q0, Q0 = wr.heap.size := ⟨_, rfl⟩
              rw [← hW30] at HQB HKQ ⊢
              rw [← hQ0] at HQB HLT ⊢
              clear hW30 hQ0
              go_loopw [102] (fun iv wx => CoRel P dl Q0 W30 iv wx) (fun iv _ => P.length - (intOf iv).toNat)
              case atStart => exact ⟨0, _, Nat.zero_le _, rfl, Nat.zero_le _, HQB.out, OW.nil, Kf.refl _ _⟩
              case round =>
                obtain ⟨k, dv, hk, rfl, hal, hCV⟩ := hrel
                by_cases hlt : k < P.length
                · obtain ⟨b, oo, e, hbz, x0, hrd⟩ := HPR.out k hlt
                  have hpn : pN k = ndl P k := by
                    obtain ⟨_, _, e2, _⟩ := hrd
                    injection e2 with _ e3
                  rw [hpn] at x0
                  have x0 := hCV.2.2.cell (by have := HLT.out.2.2.1; have := HZ.out; show ¬ b = Q0; omega) (HKQ.out.cell (HKW.out.cell x0))
                  have hlti : (k : Int) < (P.length : Int) := by omega
                  have HCV := hide hCV
                  have HAL := hide hal
                  have HPLT := hide hlt
                  have hn4 := HOK.out.ndl k
                  cases e
                  clear hCV hal hrd hpn hlt hbz
                  go_wp2
                  go_loopw [110] (fun iv wx => CmRel P dl k Q0 W30 iv wx) (fun iv _ => ndl P k - (intOf iv).toNat)
                  case atStart => exact ⟨0, dv, flO P dl k, Nat.zero_le _, rfl, by simp, by have := HAL.out; omega, HCV.out⟩
                  case round =>
                    obtain ⟨m, dv2, acc, hm, rfl, hacc, hal, hCV⟩ := hrel
                    by_cases hlt : m < ndl P k
                    · have hmi : (m : Int) < (ndl P k : Int) := by omega
                      have x5 := hCV.2.2.cell (p := ⟨bb, 5, none⟩) (by have := HLT.out.1; show ¬ bb = Q0; omega) (HKQ.out.cell HB5.out)
                      have HCV2 := hide hCV
                      have HAL2 := hide hal
                      have HACC := hide hacc
                      have HMLT := hide hlt
                      clear hCV hal hacc hlt
                      go_wp2
                      go_loopw [118] (fun iv wx => CiRel P dl k m Q0 W30 iv wx) (fun iv _ => dl.length - (intOf iv).toNat)
                      case atStart => exact ⟨0, dv2, acc, Nat.zero_le _, rfl, by simp [HACC.out], by have := HAL2.out; omega, HCV2.out⟩
                      case round =>
                        obtain ⟨j, dv3, acc3, hj, rfl, hacc3, hal3, hCV3⟩ := hrel
                        by_cases hjl : j < dl.length
                        · have hjli : (j : Int) < (dl.length : Int) := by omega
                          have hjb : j < 5000 := by have := HDL.out; omega
                          have hdr := (HDR.out.kp HKQ.out).kf hCV3.2.2 (fun _ q e1 e2 => by have := HLT.out.2.2.2 q e1; have e2 : q = Q0 := e2; omega)
                          obtain ⟨b7, o7, e7, -, y0, y1, y2, y3, y4⟩ := hdr.done hjl
                          obtain ⟨⟨yi, ye, ⟨yb, yf, ys⟩⟩, hy⟩ : ∃ y, y = dl[j]'hjl := ⟨_, rfl⟩
                          rw [← hy] at y0 y1 y2 y3 y4
                          dsimp only at y0 y1 y2 y3 y4
                          have htk := flD_take dl k m j hjl
                          rw [← hy] at htk
                          have HTK := hide htk
                          obtain ⟨hq3, how, hkf⟩ := hCV3
                          obtain ⟨xA, xN, xC, rfl⟩ := how.rd.slice
                          have q0 : wr.cell? ⟨Q0, 0, none⟩ = some (.slice xA xN xC) := hq3.cell 0
                          have HCV3 : Hid (CvRel Q0 W30 (.slice xA xN xC) acc3 wr) := hide ⟨hq3, how, hkf⟩
                          have HJL := hide hjl
                          cases e7
                          clear hdr hq3 how hkf htk
                          obtain ⟨OB9, hOB⟩ : ∃ OB : Obj, OB = .cells #[.int .i64 yi, .int .i64 ye, .int .i64 yb, .int .i64 yf, .bool ys] 35 := ⟨_, rfl⟩
                          have HKA : Hid (Kp wr (wr.alloc (.cells #[.int .i64 yi, .int .i64 ye, .int .i64 yb, .int .i64 yf, .bool ys] 35))) := hide (Kp.refl wr).alloc
                          by_cases hq1 : yi = k
                          · have q1 : ((yi : Int) == (k : Int)) = true := by rw [hq1]; exact beq_self_eq_true _
                            by_cases hq2 : ye = m
                            · have q2 : ((ye : Int) == (m : Int)) = true := by rw [hq2]; exact beq_self_eq_true _
                              have hz : (if (((yi, ye, ⟨yb, yf, ys⟩) : Nat × Nat × Dn).1 == k && ((yi, ye, ⟨yb, yf, ys⟩) : Nat × Nat × Dn).2.1 == m) = true then [((yi, ye, ⟨yb, yf, ys⟩) : Nat × Nat × Dn)] else []) = [(yi, ye, ⟨yb, yf, ys⟩)] := if_pos (by simp [hq1, hq2])
                              rw [hz] at HTK
                              have HAC : Hid (acc3 ++ [((yi, ye, ⟨yb, yf, ys⟩) : Nat × Nat × Dn)] = flO P dl k ++ (List.range m).flatMap (flD dl k) ++ (dl.take (j + 1)).filter (fun x => x.1 == k && x.2.1 == m)) := hide (by rw [HTK.out, hacc3, List.append_assoc (_ ++ _)])
                              have HM1 : Hid ((acc3.length + [((yi, ye, ⟨yb, yf, ys⟩) : Nat × Nat × Dn)].length) * 40 ≤ 140737488355328) := hide (by have := HDL.out; simp; omega)
                              have HM2 : Hid (acc3.length + [((yi, ye, ⟨yb, yf, ys⟩) : Nat × Nat × Dn)].length ≤ maxLen) := hide (by have := HDL.out; simp [maxLen]; omega)
                              have HAL3 : Hid ((acc3 ++ [((yi, ye, ⟨yb, yf, ys⟩) : Nat × Nat × Dn)]).length ≤ k * 20000 + m * 5000 + (j + 1)) := hide (by rw [List.length_append]; simp; omega)
                              have HKB : Hid (Kp wr ((wr.alloc (.cells #[.int .i64 yi, .int .i64 ye, .int .i64 yb, .int .i64 yf, .bool ys] 35)).alloc (.cells #[.int .i64 yi, .int .i64 ye, .int .i64 yb, .int .i64 yf, .bool ys] 35))) := hide (Kp.refl wr).alloc.alloc
                              have HSZ : Hid (W30.heap.size ≤ wr.heap.size) := hide HCV3.out.2.2.size
                              have q0' := HKA.out.cell q0
                              clear hacc3 hal3 hq1 hq2 hz HTK hOB hy
                              go_wp2_with (at_builtin; (with_reducible refine list_app (B := W30.heap.size) (l := acc3) (m := [((yi, ye, ⟨yb, yf, ys⟩) : Nat × Nat × Dn)]) row_done (.slice xA xN xC) ?_ (.tmp 133) (.tmp 135) ?_ ?_ ?_ ?_ HM1.out HM2.out ?_ ?_); (with_reducible rfl); (with_reducible rfl); rfl; (exact HCV3.out.2.1.kp HKB.out); (show RD _ _ (.slice (some ⟨_, 0, none⟩) 1 1) _; (focus ((repeat (first | (with_reducible assumption) | exact RD.new1 _ rfl | (refine RD.new1e _ ?_ rfl; simp; done) | (with_reducible apply RD.alloc) | (with_reducible apply RD.drew) | (with_reducible apply RD.drewN) | ((with_reducible apply RD.belowR); (with_reducible assumption)))); done))); (exact Nat.le_trans HSZ.out HKB.out.size); intro v3 w6 ho6 hg6 hat6; obtain ⟨x13, f13, HPU⟩ := HCV3.out.app HKB.out ho6 hg6; obtain ⟨A6, N6, c6, rfl⟩ := ho6.rd.slice; have HPU := hide HPU)
                              go_roundw
                              case rel => exact ⟨j + 1, _, _, by have := HJL.out; omega, by go_num, HAC.out, HAL3.out, HPU.out⟩
                              case measure => simp [intOf]; have := HJL.out; omega
                            · have q2 : ((ye : Int) == (m : Int)) = false := beq_eq_false_iff_ne.2 (by omega)
                              have hz : (if (((yi, ye, ⟨yb, yf, ys⟩) : Nat × Nat × Dn).1 == k && ((yi, ye, ⟨yb, yf, ys⟩) : Nat × Nat × Dn).2.1 == m) = true then [((yi, ye, ⟨yb, yf, ys⟩) : Nat × Nat × Dn)] else []) = [] := if_neg (by simp [hq2])
                              rw [hz, List.append_nil] at HTK
                              have HAC : Hid (acc3 = flO P dl k ++ (List.range m).flatMap (flD dl k) ++ (dl.take (j + 1)).filter (fun x => x.1 == k && x.2.1 == m)) := hide (by rw [HTK.out]; exact hacc3)
                              have HAL3 := hide hal3
                              clear hacc3 hal3 hq1 hq2 hz HTK hOB hy
                              go_wp2
                              go_roundw
                              case rel => exact ⟨j + 1, _, _, by have := HJL.out; omega, by go_num, HAC.out, by have := HAL3.out; omega, HCV3.out.kpw HKA.out⟩
                              case measure => simp [intOf]; have := HJL.out; omega
                          · have q1 : ((yi : Int) == (k : Int)) = false := beq_eq_false_iff_ne.2 (by omega)
                            have hz : (if (((yi, ye, ⟨yb, yf, ys⟩) : Nat × Nat × Dn).1 == k && ((yi, ye, ⟨yb, yf, ys⟩) : Nat × Nat × Dn).2.1 == m) = true then [((yi, ye, ⟨yb, yf, ys⟩) : Nat × Nat × Dn)] else []) = [] := if_neg (by simp [hq1])
                            rw [hz, List.append_nil] at HTK
                            have HAC : Hid (acc3 = flO P dl k ++ (List.range m).flatMap (flD dl k) ++ (dl.take (j + 1)).filter (fun x => x.1 == k && x.2.1 == m)) := hide (by rw [HTK.out]; exact hacc3)
                            have HAL3 := hide hal3
                            clear hacc3 hal3 hq1 hz HTK hOB hy
                            go_wp2
                            go_roundw
                            case rel => exact ⟨j + 1, _, _, by have := HJL.out; omega, by go_num, HAC.out, by have := HAL3.out; omega, HCV3.out.kpw HKA.out⟩
                            case measure => simp [intOf]; have := HJL.out; omega
                        · have HREL : Hid (CmRel P dl k Q0 W30 (.int .i64 ((m + 1 : Nat) : Int)) wr) := hide (by
                            have hm1 := HMLT.out
                            refine ⟨m + 1, dv3, acc3, hm1, rfl, ?_, by have := HDL.out; omega, hCV3⟩
                            rw [hacc3, List.take_of_length_le (by omega), List.range_succ, List.flatMap_append]
                            simp [flD])
                          have hjli : ¬ (j : Int) < (dl.length : Int) := by omega
                          clear hacc3 hal3 hCV3 hj hjl
                          go_wp2
                          go_roundw
                          case rel => have h := HREL.out; obtain ⟨m2, d2, a2, b1, b2, b3⟩ := h; exact ⟨m2, d2, a2, b1, by rw [← b2]; go_num, b3⟩
                          case measure => simp [intOf]; have := HMLT.out; omega
                    · have HREL : Hid (CoRel P dl Q0 W30 (.int .i64 ((k + 1 : Nat) : Int)) wr) := hide (by
                        have hk1 := HPLT.out
                        have e9 : acc = flO P dl (k + 1) := by rw [hacc, flO_succ, show m = ndl P k by omega]
                        refine ⟨k + 1, dv2, hk1, rfl, by rw [← e9]; omega, by rw [← e9]; exact hCV⟩)
                      have hmi : ¬ (m : Int) < (ndl P k : Int) := by omega
                      clear hacc hal hCV hm hlt
                      go_wp2
                      go_roundw
                      case rel => have h := HREL.out; obtain ⟨k2, d2, b1, b2, b3⟩ := h; exact ⟨k2, d2, b1, by rw [← b2]; go_num, b3⟩
                      case measure => simp [intOf]; have := HPLT.out; omega
                · have e0 : flO P dl k = doneL s P.length := by rw [show k = P.length by omega]; exact HDB.out
                  rw [e0] at hCV
                  obtain ⟨hq, how, hkf⟩ := hCV
                  obtain ⟨vA, vN, vC, rfl⟩ := how.rd.slice
                  have hz := HLT.out
                  have c1' : wr.cell? ⟨bb, 1, none⟩ = some (.slice (some ⟨bg, 0, none⟩) s.m.n bc) := hkf.cell (p := ⟨bb, 1, none⟩) (by show ¬ bb = Q0; omega) (HKQ.out.cell HB1.out)
                  have HBE2 : Hid (∀ i, i < s.m.n → wr.cell? ⟨bg, i * 4, none⟩ = some (.int .i64 (s.m.ky i)) ∧ wr.cell? ⟨bg, i * 4 + 1, none⟩ = some (.int .i64 (nxt s.m i)) ∧ wr.cell? ⟨bg, i * 4 + 2, none⟩ = some (.bool (s.m.mr i))) := hide (fun i hi => by
                    obtain ⟨a1, a2, a3⟩ := HBE.out i hi
                    have hb : ¬ bg = Q0 := by omega
                    exact ⟨hkf.cell (p := ⟨bg, i * 4, none⟩) hb (HKQ.out.cell a1), hkf.cell (p := ⟨bg, i * 4 + 1, none⟩) hb (HKQ.out.cell a2), hkf.cell (p := ⟨bg, i * 4 + 2, none⟩) hb (HKQ.out.cell a3)⟩)
                  have HQ4 := hide hq
                  have HVD := hide how
                  have HC1 := hide c1'
                  have HR4 : Hid (BC wr R0 29 [.slice none 0 0, .slice none 0 0]) := hide ((HR0.out.kp HKQ.out).kf hkf (by show ¬ R0 = Q0; omega))
                  have HKW4 : Hid (Kp w wr) := hide (hkf.kp (HKW.out.trans HKQ.out) (fun b e => by have e : b = Q0 := e; have := HZ.out; omega))
                  have hmw := HMW.out
                  have hn0 := hmw.pos
                  have hz0 : (0 : Int) < (s.m.n : Int) := by omega
                  have en0 : nxt s.m 0 = (s.m.nx 0 : Int) := by unfold nxt; rw [if_neg (by rw [hmw.k0]; omega)]
                  have c0 : wr.cell? ⟨bg, 1, none⟩ = some (.int .i64 (s.m.nx 0)) := by have := (HBE2.out 0 hn0).2.1; rw [en0] at this; simpa using this
                  have hri := hmw.ri 0 hn0 (by rw [hmw.k0]; omega)
                  rw [hmw.k0] at hri
                  have HST : Hid (LvRel s Q0 (.slice vA vN vC) wr 12 (.int .i64 (s.m.nx 0)) wr) := hide ⟨s.m.nx 0, .slice none 0 0, [], hmw.nl 0 hn0, by omega, rfl, hq, OW.nil, Kf.refl _ _, rfl⟩
                  have HZ4 : Hid (bb < wr.heap.size ∧ bg < wr.heap.size ∧ Q0 < wr.heap.size ∧ R0 < wr.heap.size ∧ ¬ bb = Q0 ∧ ¬ bg = Q0 ∧ ¬ R0 = Q0 ∧ (∀ k, (Value.slice vA vN vC).ownBlock = some k → ¬ k = R0 ∧ ¬ k = Q0)) := hide (by
                    have hs := hkf.size
                    have hs2 := HKQ.out.size
                    have hq9 := hq.lt
                    have hr9 := HR4.out.lt
                    refine ⟨by omega, by omega, hq9, hr9, by omega, by omega, by omega, fun k e => ⟨?_, ?_⟩⟩
                    · have := (how.lt k e).1; have := HQB.out.lt; omega
                    · have := (how.lt k e).1; have := HQB.out.lt; omega)
                  have hlti : ¬ (k : Int) < (P.length : Int) := by omega
                  clear e0 hal hq how hkf hz hk hmw hri en0 hn0
                  go_wp2
                  obtain ⟨W40, hW40⟩ : ∃ W, W = wr := ⟨_, rfl⟩
                  rw [← hW40] at HBE2 HQ4 HVD HC1 HR4 HKW4 HST HZ4 ⊢
                  clear hW40
                  go_loopg [21] 12 (fun g iv wx => LvRel s Q0 (.slice vA vN vC) W40 g iv wx)
                  case atStart => exact HST.out
                  case round =>
                    obtain ⟨i, lv, acc, hi, hf, rfl, hbc, how, hkf, hacc⟩ := hrel
                    have hm := HMW.out
                    have hleft : (leftM s.m).length ≤ 12 := leftF_len _ _ _
                    have hal : acc.length ≤ 12 := by rw [← hacc, List.length_append] at hleft; omega
                    obtain ⟨gq, hgq⟩ : ∃ g, g = gk := ⟨_, rfl⟩
                    rw [← hgq] at hf hacc
                    have HGQ := hide hgq
                    clear hgq
                    obtain ⟨fq, rfl⟩ : ∃ f, gq = f + 1 := ⟨gq - 1, by have := hm.kl i hi; omega⟩
                    obtain ⟨z1, z2, z3, z4, z5, z6, z7, z8⟩ := HZ4.out
                    obtain ⟨x0, x1, x2⟩ := HBE2.out i hi
                    have x0 := hkf.cell (p := ⟨bg, i * 4, none⟩) z6 x0
                    have x1 := hkf.cell (p := ⟨bg, i * 4 + 1, none⟩) z6 x1
                    have x2 := hkf.cell (p := ⟨bg, i * 4 + 2, none⟩) z6 x2
                    have cb := hkf.cell (p := ⟨bb, 1, none⟩) z5 HC1.out
                    obtain ⟨nb, hnb⟩ : ∃ n, n = s.m.n := ⟨_, rfl⟩
                    rw [← hnb] at cb
                    have hib : (i : Int) < (nb : Int) := by omega
                    obtain ⟨lA, lN, lC, rfl⟩ := how.rd.slice
                    by_cases hk : s.m.ky i = 10
                    · have en : nxt s.m i = -1 := by unfold nxt; rw [if_pos hk]
                      rw [en] at x1
                      have hE : acc = leftM s.m := by
                        have e : leftF s.m (fq + 1) i = [] := by show (if s.m.ky i = 10 then [] else _) = _; rw [if_pos hk]
                        rw [e, List.append_nil] at hacc; exact hacc
                      subst hE
                      have y0 : wr.cell? ⟨Q0, 0, none⟩ = some (.slice vA vN vC) := hbc.cell 0
                      have y1 : wr.cell? ⟨Q0, 1, none⟩ = some (.slice lA lN lC) := hbc.cell 1
                      have hrw : BC wr R0 29 [.slice none 0 0, .slice none 0 0] := HR4.out.kf hkf z7
                      have r0 := hrw.cell 0
                      have r1 := hrw.cell 1
                      have g0' := hrw.frozen 0
                      have g1' := hrw.frozen 1
                      have HF : Hid (PO (.returned (.agg #[.slice vA vN vC, .slice lA lN lC])) ((wr.setCell ⟨R0, 0, none⟩ (.slice vA vN vC)).setCell ⟨R0, 1, none⟩ (.slice lA lN lC))) := hide (by
                        rw [HPO.out]
                        have k1 : Kp w wr := hkf.kp HKW4.out (fun b e => by have e : b = Q0 := e; have := HLT.out.2.2.1; have := HZ.out.1; omega)
                        have k2 := (k1.set (p := ⟨R0, 0, none⟩) (show w.heap.size ≤ R0 from HZ.out.1) (.slice vA vN vC)).set (p := ⟨R0, 1, none⟩) (show w.heap.size ≤ R0 from HZ.out.1) (.slice lA lN lC)
                        have kfr : Kf (fun b => b = R0) wr ((wr.setCell ⟨R0, 0, none⟩ (.slice vA vN vC)).setCell ⟨R0, 1, none⟩ (.slice lA lN lC)) := Kf.set (p := ⟨R0, 1, none⟩) (Kf.set (p := ⟨R0, 0, none⟩) (Kf.refl _ wr) (.inl rfl)) (.inl rfl)
                        have hvd : RD wr eDone (.slice vA vN vC) (doneL s P.length) := HVD.out.rd.kf hkf (fun _ q e1 e2 => (z8 q e1).2 e2)
                        have ea : K.alg = alg := by rw [HK.out]; rfl
                        have hs1 := HS1.out
                        rw [ea] at hs1
                        refine ⟨s, _, _, rfl, by rw [← hs1]; exact HFIN.out, hvd.kf kfr (fun _ q e1 e2 => (z8 q e1).1 e2), how.rd.kf kfr (fun _ q e1 e2 => by have := (how.lt q e1).1; have e2 : q = R0 := e2; omega), k2⟩)
                      have HBF : Hid (BC ((wr.setCell ⟨R0, 0, none⟩ (.slice vA vN vC)).setCell ⟨R0, 1, none⟩ (.slice lA lN lC)) R0 29 [.slice vA vN vC, .slice lA lN lC]) := hide ((hrw.set (j := 0) (u := .slice vA vN vC)).set (j := 1) (u := .slice lA lN lC))
                      clear how hkf hm hleft hal hf hi hacc hk x0 x2 hbc hrw z1 z2 z3 z4 z5 z6 z7 z8 hnb en
                      go_upto_region 43 with fail
                      go_wp21
                      refine bodyPost_ret (v := .agg #[.slice vA vN vC, .slice lA lN lC]) ?_ ?_ HF.out
                      · exact results_cell_row rfl _ _ R0 29 _ (0, 0) _ rfl HBF.out Try.underlying29 rfl info_told2
                      · rfl
                    · have en : nxt s.m i = (s.m.nx i : Int) := by unfold nxt; rw [if_neg hk]
                      rw [en] at x1
                      rw [leftF_step _ _ _ hk] at hacc
                      have hnl := hm.nl i hi
                      have hri := hm.ri i hi hk
                      obtain ⟨x, hx⟩ : ∃ x, x = s.m.ky i := ⟨_, rfl⟩
                      obtain ⟨ni, hni⟩ : ∃ n, n = s.m.nx i := ⟨_, rfl⟩
                      rw [← hx] at x0 hri
                      rw [← hni] at x1 hnl hri hacc
                      have hge : (0 : Int) ≤ (ni : Int) := by omega
                      have HKF := hide hkf
                      have HBC := hide hbc
                      have HOW := hide how
                      cases hmr : s.m.mr i with
                      | true =>
                        rw [hmr] at x2 hacc
                        have HR : Hid (LvRel s Q0 (.slice vA vN vC) W40 fq (.int .i64 ni) wr) := hide ⟨ni, .slice lA lN lC, acc, hnl, by omega, rfl, hbc, how, hkf, by simpa using hacc⟩
                        clear how hkf hm hleft hal hf hi hacc hk hbc z1 z2 z3 z4 z7 z8 hnb en hnl hri hx hni hmr
                        go_wp2
                        go_roundg (gk - 1)
                        case measure => have := HGQ.out; omega
                        case rel =>
                          have e := HGQ.out
                          rw [show gk - 1 = fq by omega]
                          exact HR.out
                      | false =>
                        rw [hmr] at x2 hacc
                        have HX : ∃ R1 : World → Prop, (∀ a b, R1 a → Kp a b → R1 b) ∧ (∀ W γ, KV (.slice lA lN lC) wr W → OW W W40.heap.size 3 eInt γ (acc ++ [x]) → (γ.ownBlock = (Value.slice lA lN lC).ownBlock ∨ Hi wr.heap.size γ) → R1 (W.setCell ⟨Q0, 1, none⟩ γ)) ∧
            (∀ W, R1 W → W.cell? ⟨bb, 1, none⟩ = some (.slice (some ⟨bg, 0, none⟩) nb bc) ∧ W.cell? ⟨bg, i * 4 + 1, none⟩ = some (.int .i64 ni) ∧ LvRel s Q0 (.slice vA vN vC) W40 fq (.int .i64 ni) W) := by
                          have n0 : (Value.slice lA lN lC).ownBlock ≠ some Q0 := OW.bc_ne how hbc (by decide)
                          have hb1 := HC1.out
                          rw [← hnb] at hb1
                          have hb2 := (HBE2.out i hi).2.1
                          rw [en] at hb2
                          rw [← hx] at hacc
                          refine ⟨fun W => ∃ lv', BC W Q0 29 [.slice vA vN vC, lv'] ∧ OW W W40.heap.size 3 eInt lv' (acc ++ [x]) ∧ Kf (fun b => b = Q0) W40 W, ?_, ?_, ?_⟩
                          · rintro a b ⟨lv', a1, a2, a3⟩ kq
                            exact ⟨lv', a1.kp kq, a2.kp kq, a3.on kq⟩
                          · intro W γ h1 h2 h3
                            have hn4 : γ.ownBlock ≠ some Q0 := fun e => by
                              rcases h3 with e1 | e1
                              · exact n0 (e1.symm.trans e)
                              · have h4 := e1 _ e; have h5 := hbc.lt; omega
                            have hb4 := hbc.kf h1 n0
                            refine ⟨γ, hb4.set (j := 1) (u := γ), h2.setCell hn4 _, ?_⟩
                            exact (hkf.trans h1 (fun q hq1 hq2 => by have := (how.lt q hq2).1; omega)).set (.inl rfl)
                          · rintro W ⟨lv', a1, a2, a3⟩
                            exact ⟨a3.cell (p := ⟨bb, 1, none⟩) z5 hb1, (a3.cell (p := ⟨bg, i * 4 + 1, none⟩) z6 hb2).trans (by rw [hni]), ni, lv', acc ++ [x], hnl, by omega, rfl, a1, a2, a3, by simpa using hacc⟩
                        obtain ⟨R1, hR1, hS, hC⟩ := HX
                        have HR1 := hide hR1
                        have HS := hide hS
                        have HC := hide hC
                        clear hR1 hS hC
                        have HU := hide how
                        have HB : Hid (W40.heap.size ≤ wr.heap.size) := hide hkf.size
                        have HCU : Hid (wr.cell? ⟨Q0, 1, none⟩ = some (.slice lA lN lC)) := hide (hbc.cell 1)
                        have HCB : Hid (wr.cell? ⟨bb, 1, none⟩ = some (.slice (some ⟨bg, 0, none⟩) nb bc) ∧ (⟨bb, 1, none⟩ : Addr).block ≠ (⟨Q0, 1, none⟩ : Addr).block ∧ (Value.slice lA lN lC).ownBlock ≠ some (⟨bb, 1, none⟩ : Addr).block) := hide ⟨cb, z5, fun e => by have := (how.lt _ e).1; have e2 : (⟨bb, 1, none⟩ : Addr).block = bb := rfl; omega⟩
                        have HCX : Hid (wr.cell? ⟨bg, i * 4, none⟩ = some (.int .i64 x) ∧ (⟨bg, i * 4, none⟩ : Addr).block ≠ (⟨Q0, 1, none⟩ : Addr).block ∧ (Value.slice lA lN lC).ownBlock ≠ some (⟨bg, i * 4, none⟩ : Addr).block) := hide ⟨x0, z6, fun e => by have := (how.lt _ e).1; have e2 : (⟨bg, i * 4, none⟩ : Addr).block = bg := rfl; omega⟩
                        have HQL : Hid ((⟨Q0, 1, none⟩ : Addr).block < wr.heap.size) := hide hbc.lt
                        have HUN : Hid ((Value.slice lA lN lC).ownBlock ≠ some (⟨Q0, 1, none⟩ : Addr).block) := hide (OW.bc_ne how hbc (by decide))
                        have HF : Hid (wr.frozen? ⟨Q0, 1, none⟩ = false) := hide (hbc.frozen 1)
                        have HM1 : Hid ((acc.length + [x].length) * 8 ≤ 140737488355328) := hide (by simp; omega)
                        have HM2 : Hid (acc.length + [x].length ≤ maxLen) := hide (by simp [maxLen]; omega)
                        clear how hkf hm hleft hal hf hi hacc hk hbc z1 z2 z3 z4 z7 z8 hnb en hnl hri hx hni hmr
                        go_upto_region 42 with fail
                        refine wp_region_tabG (by kernel_rfl) [(174, .pointer (some ⟨Q0, 1, none⟩)), (175, .slice lA lN lC), (176, .pointer (some ⟨bb, 0, none⟩)), (177, .pointer (some ⟨bb, 0, none⟩)), (178, .pointer (some ⟨bb, 1, none⟩)), (179, .slice (some ⟨bg, 0, none⟩) nb bc), (180, .int .i64 i), (181, .pointer (some ⟨bg, i * 4, none⟩)), (182, .pointer (some ⟨bg, i * 4, none⟩)), (183, .int .i64 x), (186, .pointer (some ⟨Q0, 1, none⟩))] (GA wr 184 185 3 eInt x) (JA wr (.slice lA lN lC) ⟨Q0, 1, none⟩ 1 11 13 W40.heap.size 3 eInt (acc ++ [x]) R1) .nilFunc (JA.start (by decide) (by decide)) (by kernel_rfl) (by kernel_rfl) ?_ ?_
                        · refine ⟨?_, ?_, ?_, ?_, ?_, ?_, ?_, ?_, ?_, ?_, ?_, ?_, ?_, ?_, trivial⟩
                          · intro hop L a w5 γ hs hk hl ha keep know spec
                            have h16 := keep 16 (.pointer (some ⟨Q0, 0, none⟩)) (by kernel_rfl) rfl
                            exact wpOp_value hop (wanted_none rfl) (v := .pointer (some ⟨Q0, 1, none⟩)) (by simp only [execOp, Act.eval, h16]; rfl) ⟨_, γ, rfl, hk.go HR1.out (Kp.refl _) 0 (by decide) (by decide), (fun d hd => by injection hd with hd; subst hd; exact ⟨tab rfl, GA.none (by decide)⟩), fun _ _ _ h => h⟩
                          · intro hop L a w5 γ hs hk hl ha keep know spec
                            have h174 := know 174 (.pointer (some ⟨Q0, 1, none⟩)) (by kernel_rfl) rfl
                            have q := hk.load hl HCU.out
                            exact wpOp_value hop (wanted_none rfl) (v := .slice lA lN lC) (by simp only [execOp, Act.eval, h174]; go_simp) ⟨_, γ, rfl, hk.go HR1.out (Kp.refl _) 1 (by decide) (by decide), (fun d hd => by injection hd with hd; subst hd; exact ⟨tab rfl, GA.none (by decide)⟩), fun _ _ _ h => h⟩
                          · intro hop L a w5 γ hs hk hl ha keep know spec
                            have h9 := keep 9 (.pointer (some ⟨bb, 0, none⟩)) (by kernel_rfl) rfl
                            exact wpOp_value hop (wanted_none rfl) (v := .pointer (some ⟨bb, 0, none⟩)) (by simp only [execOp, Act.eval, h9]; rfl) ⟨_, γ, rfl, hk.go HR1.out (Kp.refl _) 2 (by decide) (by decide), (fun d hd => by injection hd with hd; subst hd; exact ⟨tab rfl, GA.none (by decide)⟩), fun _ _ _ h => h⟩
                          · intro hop L a w5 γ hs hk hl ha keep know spec
                            have h176 := know 176 (.pointer (some ⟨bb, 0, none⟩)) (by kernel_rfl) rfl
                            exact wpOp_value hop (wanted_none rfl) (v := .pointer (some ⟨bb, 0, none⟩)) (by simp only [execOp, Act.eval, h176]; rfl) ⟨_, γ, rfl, hk.go HR1.out (Kp.refl _) 3 (by decide) (by decide), (fun d hd => by injection hd with hd; subst hd; exact ⟨tab rfl, GA.none (by decide)⟩), fun _ _ _ h => h⟩
                          · intro hop L a w5 γ hs hk hl ha keep know spec
                            have h177 := know 177 (.pointer (some ⟨bb, 0, none⟩)) (by kernel_rfl) rfl
                            exact wpOp_value hop (wanted_none rfl) (v := .pointer (some ⟨bb, 1, none⟩)) (by simp only [execOp, Act.eval, h177]; rfl) ⟨_, γ, rfl, hk.go HR1.out (Kp.refl _) 4 (by decide) (by decide), (fun d hd => by injection hd with hd; subst hd; exact ⟨tab rfl, GA.none (by decide)⟩), fun _ _ _ h => h⟩
                          · intro hop L a w5 γ hs hk hl ha keep know spec
                            have h178 := know 178 (.pointer (some ⟨bb, 1, none⟩)) (by kernel_rfl) rfl
                            have q := hk.cell HCB.out
                            exact wpOp_value hop (wanted_none rfl) (v := .slice (some ⟨bg, 0, none⟩) nb bc) (by simp only [execOp, Act.eval, h178]; go_simp) ⟨_, γ, rfl, hk.go HR1.out (Kp.refl _) 5 (by decide) (by decide), (fun d hd => by injection hd with hd; subst hd; exact ⟨tab rfl, GA.none (by decide)⟩), fun _ _ _ h => h⟩
                          · intro hop L a w5 γ hs hk hl ha keep know spec
                            have h21 := keep 21 (.int .i64 i) (by kernel_rfl) rfl
                            exact wpOp_value hop (wanted_none rfl) (v := .int .i64 i) (by simp only [execOp, Act.eval, h21]; rfl) ⟨_, γ, rfl, hk.go HR1.out (Kp.refl _) 6 (by decide) (by decide), (fun d hd => by injection hd with hd; subst hd; exact ⟨tab rfl, GA.none (by decide)⟩), fun _ _ _ h => h⟩
                          · intro hop L a w5 γ hs hk hl ha keep know spec
                            have h179 := know 179 (.slice (some ⟨bg, 0, none⟩) nb bc) (by kernel_rfl) rfl
                            have h180 := know 180 (.int .i64 i) (by kernel_rfl) rfl
                            exact wpOp_value hop (wanted_none rfl) (v := .pointer (some ⟨bg, i * 4, none⟩)) (by simp only [execOp, Act.eval, h179, h180]; go_simp) ⟨_, γ, rfl, hk.go HR1.out (Kp.refl _) 7 (by decide) (by decide), (fun d hd => by injection hd with hd; subst hd; exact ⟨tab rfl, GA.none (by decide)⟩), fun _ _ _ h => h⟩
                          · intro hop L a w5 γ hs hk hl ha keep know spec
                            have h181 := know 181 (.pointer (some ⟨bg, i * 4, none⟩)) (by kernel_rfl) rfl
                            exact wpOp_value hop (wanted_none rfl) (v := .pointer (some ⟨bg, i * 4, none⟩)) (by simp only [execOp, Act.eval, h181]; rfl) ⟨_, γ, rfl, hk.go HR1.out (Kp.refl _) 8 (by decide) (by decide), (fun d hd => by injection hd with hd; subst hd; exact ⟨tab rfl, GA.none (by decide)⟩), fun _ _ _ h => h⟩
                          · intro hop L a w5 γ hs hk hl ha keep know spec
                            have h182 := know 182 (.pointer (some ⟨bg, i * 4, none⟩)) (by kernel_rfl) rfl
                            have q := hk.cell HCX.out
                            exact wpOp_value hop (wanted_none rfl) (v := .int .i64 x) (by simp only [execOp, Act.eval, h182]; go_simp) ⟨_, γ, rfl, hk.go HR1.out (Kp.refl _) 9 (by decide) (by decide), (fun d hd => by injection hd with hd; subst hd; exact ⟨tab rfl, GA.none (by decide)⟩), fun _ _ _ h => h⟩
                          · intro hop L a w5 γ hs hk hl ha keep know spec
                            have h183 := know 183 (.int .i64 x) (by kernel_rfl) rfl
                            exact wpOp_value hop (wanted_none rfl) (v := .slice (some ⟨w5.heap.size, 0, none⟩) 1 1) (w' := w5.alloc (.cells #[.int .i64 x] 3)) (by simp only [execOp, Act.eval, List.map_toArray, List.map_cons, List.map_nil, h183]; go_simp) ⟨_, γ, rfl, hk.go HR1.out (Kp.refl _).alloc 10 (by decide) (by decide), (fun d hd => by injection hd with hd; subst hd; exact ⟨tab_none rfl, ⟨fun _ => ⟨_, rfl, hk.k2.size, BC.new w5 _ [.int .i64 x]⟩, fun e => by omega⟩⟩), fun _ _ _ h => h.kp (Kp.refl _).alloc⟩
                          · intro hop L a w5 γ hs hk hl ha keep know spec
                            have h175 := know 175 (.slice lA lN lC) (by kernel_rfl) rfl
                            obtain ⟨b, e184, hb, bc⟩ := (spec 184 (by kernel_rfl)).1 rfl
                            have how := HU.out.kp (hk.k1 hl)
                            obtain ⟨v', w', hr, hov, hgr, hat⟩ := run_app (P := Try.prog) 27 row_int how (rd_blk (x := x) bc) HM1.out HM2.out (Nat.le_trans HB.out (hk.k1 hl).size)
                            exact wpOp_value hop (wanted_none rfl) (v := v') (w' := w') (run_exec_app (.tmp 175) (.tmp 184) rfl h175 e184 hr) ⟨_, v', rfl, hk.app hl (after_done ha (k := 1) (by kernel_rfl)) (by decide) (by decide) HU.out hgr hov hat, (fun d hd => by injection hd with hd; subst hd; exact ⟨tab_none rfl, ⟨fun e => by omega, fun _ => rfl⟩⟩), fun j u hd h => h.app (fun e => hd (by rw [e])) HU.out hgr⟩
                          · intro hop L a w5 γ hs hk hl ha keep know spec
                            have h16 := keep 16 (.pointer (some ⟨Q0, 0, none⟩)) (by kernel_rfl) rfl
                            exact wpOp_value hop (wanted_none rfl) (v := .pointer (some ⟨Q0, 1, none⟩)) (by simp only [execOp, Act.eval, h16]; rfl) ⟨_, γ, rfl, hk.go HR1.out (Kp.refl _) 12 (by decide) (by decide), (fun d hd => by injection hd with hd; subst hd; exact ⟨tab rfl, GA.none (by decide)⟩), fun _ _ _ h => h⟩
                          · intro hop L a w5 γ hs hk hl ha keep know spec
                            have h186 := know 186 (.pointer (some ⟨Q0, 1, none⟩)) (by kernel_rfl) rfl
                            have hG := (spec 185 (by kernel_rfl)).2 rfl
                            obtain ⟨q, f, ⟨xA, xn, xc, e⟩, hj⟩ := hk.store hl (after_done ha (k := 11) (by kernel_rfl)) (by decide) HQL.out HUN.out HCU.out HF.out HS.out
                            subst e
                            exact wpOp_skip hop (wanted_none rfl) (w' := w5.setCell ⟨Q0, 1, none⟩ (.slice xA xn xc)) (by simp only [execOp, Act.eval, h186, hG]; go_simp) ⟨_, _, rfl, hj, (fun d hd => by cases hd), fun _ _ _ h => h.far HQL.out⟩
                        · intro a' w9 γ' e1 e2 hk keep know spec
                          obtain ⟨tm, df⟩ := a'
                          obtain ⟨f8, hf⟩ := frame_puts (D := [174, 175, 176, 177, 178, 179, 180, 181, 182, 183, 184, 185, 186]) e2 keep
                          have e1' : df = [] := e1
                          clear keep know spec e1 e2
                          simp only [List.foldl_cons, List.foldl_nil, List.setIfInBounds_toArray, List.set_cons_zero, List.set_cons_succ] at hf
                          subst e1'
                          rw [hf]
                          clear hf
                          have hr := hk.k4 (getR_true _ _)
                          obtain ⟨cb9, x9, hlv⟩ := HC.out _ hr
                          have HLV := hide hlv
                          clear hk hr hlv HCU HCB HCX HU HB HM1 HM2 HQL HF HUN HS HR1
                          go_wp2
                          go_roundg (gk - 1)
                          case measure => have := HGQ.out; omega
                          case rel =>
                            have e := HGQ.out
                            rw [show gk - 1 = fq by omega]
                            exact HLV.out
end Go.Proofs.Ytoihdnekkgpcoaa
namespace Go.Proofs.Ytoihdnekkgpcoaa
open Go.ChangeShapes Go.WideShapes Go.ChangeAt Go.RowKit
set_option linter.unusedVariables false
set_option linter.unusedSimpArgs false

def SdRel {α : Type} (l : List α) (w : World) (i : Value) (wr : World) : Prop := ∃ k : Nat, k ≤ l.length ∧ i = .int .i64 k ∧ Kp w wr
set_option maxHeartbeats 1000000 in
theorem eqDone_eq (l : List (Nat × Nat × Dn)) (v u : Value) (w : World) (hl : RD w eDone v l) (hm : RD w eDone u l) :
    Calls Try.prog 22 #[v, u] w (fun e w' => e = .returned (.bool true) ∧ Kp w w') := by
  obtain ⟨A, c, rfl, hc, hc'⟩ := hl.shape
  obtain ⟨A2, c2, rfl, hc2, hc2'⟩ := hm.shape
  have HL := hide hl
  have HM := hide hm
  clear hl hm
  go_enter Try.func22, Try.ntmps22
  go_wp2
  go_loopw [13] (fun i wr => SdRel l w i wr) (fun i wr => l.length - (intOf i).toNat)
  case atStart => exact ⟨0, Nat.zero_le _, rfl, Kp.refl _⟩
  case round =>
    obtain ⟨k, hk, rfl, hkp⟩ := hrel
    have HK := hide hkp
    by_cases hlt : k < l.length
    · obtain ⟨b, o, e1, -, c0, c1, c2, c3, c4⟩ := (HL.out.kp hkp).done hlt
      obtain ⟨b2, o2, e2, -, d0, d1, d2, d3, d4⟩ := (HM.out.kp hkp).done hlt
      obtain ⟨⟨yi, ye, ⟨yb, yf, ys⟩⟩, hy⟩ : ∃ y, y = l[k]'hlt := ⟨_, rfl⟩
      rw [← hy] at c0 c1 c2 c3 c4 d0 d1 d2 d3 d4
      dsimp only at c0 c1 c2 c3 c4 d0 d1 d2 d3 d4
      cases e1
      cases e2
      have hlti : (k : Int) < (l.length : Int) := by omega
      clear hy hkp
      go_wp2_with fail
      go_quiet (fail)
      go_wp2
      go_roundw
      case rel => exact ⟨k + 1, hlt, by go_num, by have := HK.out; (focus ((repeat (first | (with_reducible assumption) | (with_reducible exact Kp.refl _) | (with_reducible apply Kp.drew) | (with_reducible apply Kp.drewN) | (with_reducible apply Kp.alloc) | ((with_reducible apply Kp.callK); (with_reducible assumption)))); done))⟩
      case measure => simp [intOf]; omega
    · have hlti : ¬ (k : Int) < (l.length : Int) := by omega
      clear hkp
      go_wp2
      go_ret
      exact ⟨rfl, HK.out⟩
set_option maxHeartbeats 1000000 in
theorem sameTold_eq (d : List (Nat × Nat × Dn)) (l : List Int) (v1 l1 v2 l2 : Value) (w : World) (h1 : RD w eDone v1 d) (h2 : RD w eInt l1 l) (h3 : RD w eDone v2 d) (h4 : RD w eInt l2 l) :
    Calls Try.prog 13 #[.agg #[v1, l1], .agg #[v2, l2]] w (fun e w' => e = .returned (.bool true) ∧ Kp w w') := by
  have HE := hide (fun W (k : Kp w W) => eqDone_eq d v1 v2 W (h1.kp k) (h3.kp k))
  have HI := hide (fun W (k : Kp w W) => sameInts_to l l true l1 l2 W (h2.kp k) (h4.kp k) (by simp))
  obtain ⟨A1, c1, rfl, -⟩ := h1.shape
  obtain ⟨A2, c2, rfl, -⟩ := h2.shape
  obtain ⟨A3, c3, rfl, -⟩ := h3.shape
  obtain ⟨A4, c4, rfl, -⟩ := h4.shape
  clear h1 h2 h3 h4
  go_enter Try.func13, Try.ntmps13
  go_wp2_with fail
  have k1 : Kp w ((w.alloc (.cells #[.slice A1 d.length c1, .slice A2 l.length c2] 29)).alloc (.cells #[.slice A3 d.length c3, .slice A4 l.length c4] 29)) := (Kp.refl w).alloc.alloc
  have b1 : BC ((w.alloc (.cells #[.slice A1 d.length c1, .slice A2 l.length c2] 29)).alloc (.cells #[.slice A3 d.length c3, .slice A4 l.length c4] 29)) w.heap.size 29 [.slice A1 d.length c1, .slice A2 l.length c2] := (BC.new w _ [.slice A1 d.length c1, .slice A2 l.length c2]).kp (Kp.refl _).alloc
  have b2 : BC ((w.alloc (.cells #[.slice A1 d.length c1, .slice A2 l.length c2] 29)).alloc (.cells #[.slice A3 d.length c3, .slice A4 l.length c4] 29)) (w.heap.size + 1) 29 [.slice A3 d.length c3, .slice A4 l.length c4] := by
    have := BC.new (w.alloc (.cells #[.slice A1 d.length c1, .slice A2 l.length c2] 29)) 29 [.slice A3 d.length c3, .slice A4 l.length c4]
    simpa using this
  have HK1 := hide k1
  refine (HE.out _ k1).mono ?_
  rintro e w3 ⟨rfl, k3⟩
  have x1 : w3.cell? ⟨w.heap.size, 1, none⟩ = some (.slice A2 l.length c2) := (b1.kp k3).cell 1
  have x2 : w3.cell? ⟨w.heap.size + 1, 1, none⟩ = some (.slice A4 l.length c4) := (b2.kp k3).cell 1
  have HK3 := hide (HK1.out.trans k3)
  clear k1 b1 b2 k3 HE
  go_wp2_with fail
  refine (HI.out _ HK3.out).mono ?_
  rintro e w4 ⟨rfl, k4⟩
  have HK4 := hide (HK3.out.trans k4)
  clear k4
  go_wp2
  go_ret
  exact ⟨rfl, HK4.out⟩
end Go.Proofs.Ytoihdnekkgpcoaa
namespace Go.Proofs.Ytoihdnekkgpcoaa
open Go.ChangeShapes Go.WideShapes Go.ChangeAt Go.RowKit
set_option linter.unusedVariables false
set_option linter.unusedSimpArgs false

theorem kyOk_suc {l : List Int} {k : Nat} : kyOk l (k + 1) ↔ kyOk l k ∧ (0 ≤ l.getD k 0 ∧ l.getD k 0 ≤ 9) ∧ (0 < k → l.getD (k - 1) 0 < l.getD k 0) :=
  ⟨fun h => ⟨fun i hi => h i (by omega), h k (by omega)⟩, fun ⟨a, b, c⟩ => kyOk_step a b c⟩
theorem take_suc_iff {α : Type} {Q : α → Prop} {l : List α} {j : Nat} (h : j < l.length) : (∀ x ∈ l.take (j + 1), Q x) ↔ (∀ x ∈ l.take j, Q x) ∧ Q l[j] := by
  refine ⟨fun hh => ⟨fun x hx => hh x ?_, hh _ ?_⟩, fun ⟨a, b⟩ => take_step h a b⟩
  · rw [List.take_succ_eq_append_getElem h]; exact List.mem_append.2 (.inl hx)
  · rw [List.take_succ_eq_append_getElem h]; exact List.mem_append.2 (.inr (List.mem_singleton.2 rfl))
theorem okD_btw (d : Dd) : okD d ↔ (btw d.kind 1 3 = true ∧ btw d.key 0 9 = true) := by
  rw [btw_iff, btw_iff]
  unfold okD
  constructor
  · rintro ⟨a, b, c⟩; exact ⟨by omega, by omega⟩
  · rintro ⟨a, b⟩; exact ⟨by omega, by omega, by omega⟩
def HrA (l : List Int) (w : World) (fv lv iv : Value) (wr : World) : Prop :=
  ∃ (j : Nat) (fb : Bool) (la : Int), j ≤ l.length ∧ iv = .int .i64 j ∧ fv = .bool fb ∧ lv = .int .i64 la ∧ (fb = true ↔ kyOk l j) ∧ (la = if j = 0 then -1 else l.getD (j - 1) 0) ∧ w = wr
def HrB (B0 : Prop) (l : List Int) (P : List (List Dd)) (w : World) (gv fv iv : Value) (wr : World) : Prop :=
  ∃ (k : Nat) (gb fb : Bool), k ≤ P.length ∧ iv = .int .i64 k ∧ gv = .bool gb ∧ fv = .bool fb ∧ (gb = true ↔ (B0 ∨ ¬ ∀ p ∈ P.take k, p.length ≤ 4)) ∧ (fb = true ↔ (kyOk l l.length ∧ dsOk (P.take k))) ∧ Kp w wr
def HrC (F0 : Prop) (p : List Dd) (w : World) (fv iv : Value) (wr : World) : Prop :=
  ∃ (k : Nat) (fb : Bool), k ≤ p.length ∧ iv = .int .i64 k ∧ fv = .bool fb ∧ (fb = true ↔ (F0 ∧ ∀ d ∈ p.take k, okD d)) ∧ Kp w wr
set_option maxRecDepth 100000 in
set_option maxHeartbeats 8000000 in
theorem href_any (algo : Int) (l : List Int) (P : List (List Dd)) (o : List Int) (vl vp vo : Value) (w : World) (hl : RD w eInt vl l) (hp : RDS w eDeed vp P) (ho : RD w eInt vo o) :
    Calls Try.prog 12 #[.int .i64 algo, vl, vp, vo] w (fun e w' => e = .returned (.int .i64 (rgF algo l P o.length)) ∧ Kp w w') := by
  obtain ⟨A1, c1, rfl, hc1, _⟩ := hl.shape
  obtain ⟨A2, c2, rfl, hc2, _⟩ := hp.shape
  obtain ⟨A3, c3, rfl, hc3, _⟩ := ho.shape
  have HL := hide hl
  have HP := hide hp
  clear hl hp ho
  obtain ⟨gb0, hgb0⟩ : ∃ g : Bool, (g = true ↔ (4 < P.length ∨ 500 < o.length)) := ⟨decide (4 < P.length ∨ 500 < o.length), by simp⟩
  have HGB := hide hgb0
  have HE : Hid (∀ g f : Bool, (g = true ↔ ((4 < P.length ∨ 500 < o.length) ∨ ¬ ∀ p ∈ P, p.length ≤ 4)) → (f = true ↔ (kyOk l l.length ∧ dsOk P)) → rgF algo l P o.length = if btw algo 1 4 = false then 1 else if g = true then 2 else if f = true then 0 else 3) := hide (by
    intro g f hg hf
    unfold rgF
    have e1 : (¬ (1 ≤ algo ∧ algo ≤ 4)) ↔ btw algo 1 4 = false := by rw [btw_f_iff]
    have e2 : (P.length > 4 ∨ o.length > 500 ∨ ¬ (∀ p ∈ P, p.length ≤ 4)) ↔ g = true := by rw [hg]; exact or_assoc.symm
    simp only [propext e1, propext e2, ← propext hf])
  clear hgb0
  go_enter Try.func12, Try.ntmps12
  go_upto_region 1 with fail
  go_cut [9] from 18 to 25 (fun s9 wx => s9 = .bool gb0 ∧ w = wx)
  case first =>
    by_cases h1 : 4 < P.length
    · have d1 : decide ((4 : Int) < (P.length : Int)) = true := decide_eq_true (by omega)
      have e0 : gb0 = true := HGB.out.2 (.inl h1)
      have HE0 := hide e0
      clear h1 e0
      go_wp2_with fail
      go_meet
      exact ⟨by rw [HE0.out], rfl⟩
    · have d1 : decide ((4 : Int) < (P.length : Int)) = false := decide_eq_false (by omega)
      have e0 : decide ((500 : Int) < (o.length : Int)) = gb0 := by
        have h := HGB.out
        cases gb0 with
        | true => have := h.1 rfl; exact decide_eq_true (by omega)
        | false => exact decide_eq_false (fun hh => by have := h.2 (.inr (by omega)); cases this)
      have HE0 := hide e0
      clear h1 e0
      go_wp2_with fail
      go_meet
      exact ⟨by rw [← HE0.out], rfl⟩
  case rest =>
    obtain ⟨rfl, rfl⟩ := hcut
    go_wp2
    go_loopw [10, 11, 28] (fun fv lv iv wx => HrA l w fv lv iv wx) (fun _ _ iv _ => l.length - (intOf iv).toNat)
    case atStart => exact ⟨0, true, -1, Nat.zero_le _, rfl, rfl, rfl, ⟨fun _ i hi => by omega, fun _ => rfl⟩, rfl, rfl⟩
    case round =>
      obtain ⟨j, fb, la, hj, rfl, rfl, rfl, hfb, hla, rfl⟩ := hrel
      by_cases hjl : j < l.length
      · obtain ⟨b, oo, e, _, x0⟩ := HL.out.int hjl
        cases e
        have hg : l.getD j 0 = l[j] := by simp [List.getD_eq_getElem?_getD, hjl]
        obtain ⟨x, hx⟩ : ∃ x, x = l[j]'hjl := ⟨_, rfl⟩
        rw [← hx] at x0 hg
        have hjli : (j : Int) < (l.length : Int) := by omega
        have HX := hide (And.intro hfb (And.intro hla (And.intro hg hjl)))
        cases fb with
        | true =>
          have hk := hfb.1 rfl
          have hla9 : -1 ≤ la ∧ la ≤ 9 := by
            rw [hla]
            split
            · omega
            · have := (hk (j - 1) (by omega)).1; omega
          have s1 : IntKind.i64.wrap (la + 1) = la + 1 := IntWalk.i64_in _ (by omega)
          have HR : Hid ((btw x (la + 1) 9 = true) ↔ kyOk l (j + 1)) := hide (by
            rw [kyOk_suc, btw_iff, hg]
            by_cases h0 : j = 0
            · subst h0
              rw [if_pos rfl] at hla
              subst hla
              constructor
              · rintro ⟨a, b⟩; exact ⟨hk, ⟨by omega, b⟩, fun h => absurd h (Nat.lt_irrefl _)⟩
              · rintro ⟨_, ⟨a, b⟩, _⟩; exact ⟨by omega, b⟩
            · rw [if_neg h0] at hla
              have h1 := (hk (j - 1) (by omega)).1
              rw [← hla] at h1 ⊢
              constructor
              · rintro ⟨a, b⟩; exact ⟨hk, ⟨by omega, b⟩, fun _ => by omega⟩
              · rintro ⟨_, ⟨a, b⟩, c⟩; exact ⟨by have := c (by omega); omega, b⟩)
          clear hfb hla hg hx hk hla9
          go_wp2_with fail
          refine (between_any x (la + 1) 9 _).mono ?_
          rintro e w2 ⟨rfl, rfl⟩
          go_wp2
          go_roundw
          case rel => exact ⟨j + 1, _, x, by have := HX.out.2.2.2; omega, by go_num, rfl, rfl, HR.out, by rw [if_neg (Nat.succ_ne_zero _), Nat.add_sub_cancel, HX.out.2.2.1], rfl⟩
          case measure => simp [intOf]; have := HX.out.2.2.2; omega
        | false =>
          have HN : Hid (¬ kyOk l j) := hide (fun h => by have := hfb.2 h; cases this)
          clear hfb hla hg hx
          go_wp2
          go_roundw
          case rel => exact ⟨j + 1, false, x, by have := HX.out.2.2.2; omega, by go_num, rfl, rfl, ⟨(fun h => by cases h), (fun h => absurd (fun i hi => h i (by omega)) HN.out)⟩, by rw [if_neg (Nat.succ_ne_zero _), Nat.add_sub_cancel, HX.out.2.2.1], rfl⟩
          case measure => simp [intOf]; have := HX.out.2.2.2; omega
      · have HF0 : Hid (fb = true ↔ kyOk l l.length) := hide (by rw [hfb, show j = l.length by omega])
        clear hfb hla
        go_wp2
        go_loopw [9, 10, 43] (fun gv fv iv wx => HrB (4 < P.length ∨ 500 < o.length) l P w gv fv iv wx) (fun _ _ iv _ => P.length - (intOf iv).toNat)
        case atStart => exact ⟨0, _, _, Nat.zero_le _, rfl, rfl, rfl, by rw [HGB.out]; simp, by rw [HF0.out]; simp [dsOk], Kp.refl _⟩
        case round =>
          obtain ⟨k, g, f, hk, rfl, rfl, rfl, hg, hf, hkp⟩ := hrel
          by_cases hlt : k < P.length
          · obtain ⟨b, oo, u, e, _, c0, hu⟩ := (HP.out.kp hkp).at_ hlt
            cases e
            obtain ⟨A4, c4, rfl, hq4, _⟩ := hu.shape
            have HU := hide hu
            have HLT := hide hlt
            have HKP := hide hkp
            have HS1 := hide (take_suc_iff (Q := fun p : List Dd => p.length ≤ 4) hlt)
            have HS2 : Hid (dsOk (P.take (k + 1)) ↔ dsOk (P.take k) ∧ ∀ d ∈ P[k]'hlt, okD d) := hide (take_suc_iff (Q := fun p : List Dd => ∀ d ∈ p, okD d) hlt)
            have HGF := hide (And.intro hg hf)
            obtain ⟨p, hpe⟩ : ∃ p, p = P[k]'hlt := ⟨_, rfl⟩
            rw [← hpe] at c0 HU HS1 HS2 hq4
            have hlti : (k : Int) < (P.length : Int) := by omega
            obtain ⟨g2, hg2⟩ : ∃ g2 : Bool, g2 = (g || decide ((4 : Int) < (p.length : Int))) := ⟨_, rfl⟩
            have HG2 : Hid (g2 = true ↔ ((4 < P.length ∨ 500 < o.length) ∨ ¬ ∀ p ∈ P.take (k + 1), p.length ≤ 4)) := hide (by
              have e : ((4 : Int) < (p.length : Int)) ↔ ¬ p.length ≤ 4 := by omega
              rw [hg2, Bool.or_eq_true, hg, HS1.out, decide_eq_true_eq, Classical.not_and_iff_not_or_not, e, or_assoc])
            clear hpe hu hg hf
            go_upto_region 13 with fail
            go_cut [9] from 48 to 52 (fun s9 wx => s9 = .bool g2 ∧ wr = wx)
            case first =>
              cases g with
              | true =>
                go_wp2_with fail
                go_meet
                exact ⟨by rw [hg2]; rfl, rfl⟩
              | false =>
                have HG3 : Hid (decide ((4 : Int) < (p.length : Int)) = g2) := hide (by rw [hg2]; rfl)
                clear hg2
                go_wp2_with fail
                go_meet
                exact ⟨by rw [← HG3.out], rfl⟩
            case rest =>
              obtain ⟨rfl, rfl⟩ := hcut
              clear hg2
              go_wp2
              go_loopw [10, 55] (fun fv iv wx => HrC (kyOk l l.length ∧ dsOk (P.take k)) p wr fv iv wx) (fun _ iv _ => p.length - (intOf iv).toNat)
              case atStart => exact ⟨0, _, Nat.zero_le _, rfl, rfl, by rw [HGF.out.2]; simp, Kp.refl _⟩
              case round =>
                obtain ⟨i, fi, hi, rfl, rfl, hfi, hkp2⟩ := hrel
                by_cases hil : i < p.length
                · obtain ⟨b4, o4, e, _, x0, x1⟩ := (HU.out.kp hkp2).deed hil
                  cases e
                  have HS3 := hide (take_suc_iff (Q := okD) hil)
                  have HFI := hide hfi
                  have HKK := hide hkp2
                  have HIL := hide hil
                  obtain ⟨d, hd⟩ : ∃ d, d = p[i]'hil := ⟨_, rfl⟩
                  rw [← hd] at x0 x1 HS3
                  have hili : (i : Int) < (p.length : Int) := by omega
                  obtain ⟨kd, ky⟩ := d
                  simp only at x0 x1
                  clear hd hfi hkp2
                  cases fi with
                  | true =>
                    cases hb1 : btw kd 1 3 with
                    | true =>
                      have HR : Hid ((btw ky 0 9 = true) ↔ ((kyOk l l.length ∧ dsOk (P.take k)) ∧ ∀ d ∈ p.take (i + 1), okD d)) := hide (by
                        have h1 := HFI.out.1 rfl
                        rw [HS3.out, okD_btw]
                        constructor
                        · intro h; exact ⟨h1.1, h1.2, hb1, h⟩
                        · intro h; exact h.2.2.2)
                      have HB1 := hide hb1
                      clear hb1
                      go_wp2_with fail
                      refine (between_any kd 1 3 _).mono ?_
                      rintro e w2 ⟨rfl, rfl⟩
                      rw [HB1.out]
                      go_wp2_with fail
                      refine (between_any ky 0 9 _).mono ?_
                      rintro e w2 ⟨rfl, rfl⟩
                      go_wp2
                      go_roundw
                      case rel => exact ⟨i + 1, _, by have := HIL.out; omega, by go_num, rfl, HR.out, by have := HKK.out; (focus ((repeat (first | (with_reducible assumption) | (with_reducible exact Kp.refl _) | (with_reducible apply Kp.drew) | (with_reducible apply Kp.drewN) | ((with_reducible apply Kp.setR); (focus (first | (with_reducible assumption) | (simp; done) | (simp; omega)))) | (with_reducible apply Kp.alloc) | ((with_reducible apply Kp.call); (with_reducible assumption)) | ((with_reducible apply Kp.app); (with_reducible assumption)))); done))⟩
                      case measure => simp [intOf]; have := HIL.out; omega
                    | false =>
                      have HR : Hid ((false = true) ↔ ((kyOk l l.length ∧ dsOk (P.take k)) ∧ ∀ d ∈ p.take (i + 1), okD d)) := hide (by
                        rw [HS3.out, okD_btw]
                        constructor
                        · intro h; cases h
                        · intro h; have h := h.2.2.1; rw [hb1] at h; exact h)
                      have HB1 := hide hb1
                      clear hb1
                      go_wp2_with fail
                      refine (between_any kd 1 3 _).mono ?_
                      rintro e w2 ⟨rfl, rfl⟩
                      rw [HB1.out]
                      go_wp2
                      go_roundw
                      case rel => exact ⟨i + 1, _, by have := HIL.out; omega, by go_num, rfl, HR.out, by have := HKK.out; (focus ((repeat (first | (with_reducible assumption) | (with_reducible exact Kp.refl _) | (with_reducible apply Kp.drew) | (with_reducible apply Kp.drewN) | ((with_reducible apply Kp.setR); (focus (first | (with_reducible assumption) | (simp; done) | (simp; omega)))) | (with_reducible apply Kp.alloc) | ((with_reducible apply Kp.call); (with_reducible assumption)) | ((with_reducible apply Kp.app); (with_reducible assumption)))); done))⟩
                      case measure => simp [intOf]; have := HIL.out; omega
                  | false =>
                    have HR : Hid ((false = true) ↔ ((kyOk l l.length ∧ dsOk (P.take k)) ∧ ∀ d ∈ p.take (i + 1), okD d)) := hide (by
                      rw [HS3.out]
                      constructor
                      · intro h; cases h
                      · intro h; exact HFI.out.2 ⟨h.1, h.2.1⟩)
                    go_wp2
                    go_roundw
                    case rel => exact ⟨i + 1, _, by have := HIL.out; omega, by go_num, rfl, HR.out, by have := HKK.out; (focus ((repeat (first | (with_reducible assumption) | (with_reducible exact Kp.refl _) | (with_reducible apply Kp.drew) | (with_reducible apply Kp.drewN) | ((with_reducible apply Kp.setR); (focus (first | (with_reducible assumption) | (simp; done) | (simp; omega)))) | (with_reducible apply Kp.alloc) | ((with_reducible apply Kp.call); (with_reducible assumption)) | ((with_reducible apply Kp.app); (with_reducible assumption)))); done))⟩
                    case measure => simp [intOf]; have := HIL.out; omega
                · have HF2 : Hid (fi = true ↔ (kyOk l l.length ∧ dsOk (P.take (k + 1)))) := hide (by
                    rw [hfi, HS2.out, List.take_of_length_le (show p.length ≤ i by omega)]
                    constructor
                    · rintro ⟨⟨a, b⟩, c⟩; exact ⟨a, b, c⟩
                    · rintro ⟨a, b, c⟩; exact ⟨⟨a, b⟩, c⟩)
                  have HKK := hide (HKP.out.trans hkp2)
                  clear hfi hkp2
                  go_wp2
                  go_roundw
                  case rel => exact ⟨k + 1, _, _, by have := HLT.out; omega, by go_num, rfl, rfl, HG2.out, HF2.out, HKK.out⟩
                  case measure => simp [intOf]; have := HLT.out; omega
          · have h1 := HE.out g f (by rw [hg, List.take_of_length_le (by omega)]) (by rw [hf, List.take_of_length_le (by omega)])
            have H1 := hide h1
            have HKP := hide hkp
            clear h1 hg hf hkp
            go_wp2_with fail
            refine (between_any algo 1 4 _).mono ?_
            rintro e w2 ⟨rfl, rfl⟩
            cases hb : btw algo 1 4 with
            | false =>
              have H2 := hide (H1.out.trans (if_pos hb))
              clear hb
              go_wp2
              go_ret
              exact ⟨by rw [H2.out]; rfl, HKP.out⟩
            | true =>
              have H2 := hide (H1.out.trans (if_neg (by rw [hb]; decide)))
              clear hb H1
              cases g with
              | true =>
                go_wp2
                go_ret
                exact ⟨by rw [H2.out]; rfl, HKP.out⟩
              | false =>
                cases f with
                | true =>
                  go_wp2
                  go_ret
                  exact ⟨by rw [H2.out]; rfl, HKP.out⟩
                | false =>
                  go_wp2
                  go_ret
                  exact ⟨by rw [H2.out]; rfl, HKP.out⟩
end Go.Proofs.Ytoihdnekkgpcoaa
