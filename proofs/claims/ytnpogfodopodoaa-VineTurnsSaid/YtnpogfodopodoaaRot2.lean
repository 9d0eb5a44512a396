/-
  A turn at a link of a tree that is written: the left or the right child comes up. No program. Conditions: none.
-/
import Derived.Test.YtnpogfodopodoaaPlace
import Derived.Test.YtnpogfodopodoaaMPt
namespace Go.Proofs.Ytnpogfodopodoaa
open Go.ChangeShapes Go.WideShapes Go.ChangeAt Go.RowKit
set_option linter.unusedVariables false
set_option linter.unusedSimpArgs false

section
variable {α : Type} {w : World} {nt : TypeId} {E : Enc α} {kf : α → Int} {r0 q : Addr} {T : MT α} {F : List Nat} {key : Int} {C : List (Fm α)} {a c : α} {l r x y : MT α} {b b2 : Nat} {pl pr px py : Option Addr} {Fc Fl Fr Fx Fy : List Nat}
theorem At_.qblk {t : MT α} {p : Option Addr} {Ft : List Nat} (h : At_ w nt E kf r0 T F key C q t p Fc Ft) (hr : r0.block ∉ F) {i : Nat} (hi : i ∈ Ft) : q.block ≠ i := by
  rcases h.zp.at_ with e | hx
  · rw [e]; intro e'; exact hr (h.sub _ (.inl (by rw [e']; exact hi)))
  · intro e'; exact h.dis i hi (by rw [← e']; exact hx)
theorem At_.rotR (h : At_ w nt E kf r0 T F key C q (.node a (.node c x y) r) (some ⟨b, 0, none⟩) Fc (b :: ((b2 :: (Fx ++ Fy)) ++ Fr))) (hr0 : r0.block ∉ F)
    (hb : BC w b nt (nodeC E a (some ⟨b2, 0, none⟩) pr)) (hb2 : BC w b2 nt (nodeC E c px py)) (g1 : b ∉ b2 :: (Fx ++ Fy)) (g2 : b ∉ Fr) (g3 : ∀ z ∈ b2 :: (Fx ++ Fy), z ∉ Fr) (i1 : b2 ∉ Fx) (i2 : b2 ∉ Fy) (i3 : ∀ z ∈ Fx, z ∉ Fy)
    (hx : MR w nt E x px Fx) (hy : MR w nt E y py Fy) (hr : MR w nt E r pr Fr) :
    At_ (((w.setCell ⟨b, E.size, none⟩ (.pointer py)).setCell ⟨b2, E.size + 1, none⟩ (.pointer (some ⟨b, 0, none⟩))).setCell q (.pointer (some ⟨b2, 0, none⟩))) nt E kf r0 (plug C (.node c x (.node a y r))) F key C q (.node c x (.node a y r)) (some ⟨b2, 0, none⟩) Fc (b2 :: (Fx ++ (b :: (Fy ++ Fr)))) := by
  have hbq : q.block ≠ b := h.qblk hr0 (by simp)
  have hb2q : q.block ≠ b2 := h.qblk hr0 (by simp)
  have hxq : q.block ∉ Fx := fun hz => h.qblk hr0 (i := q.block) (by simp [hz]) rfl
  have hyq : q.block ∉ Fy := fun hz => h.qblk hr0 (i := q.block) (by simp [hz]) rfl
  have hrq : q.block ∉ Fr := fun hz => h.qblk hr0 (i := q.block) (by simp [hz]) rfl
  have hbF : b ∈ F := h.sub b (.inl (by simp))
  have hb2F : b2 ∈ F := h.sub b2 (.inl (by simp))
  have hbr : b ≠ r0.block := fun e => hr0 (by rw [← e]; exact hbF)
  have hb2r : b2 ≠ r0.block := fun e => hr0 (by rw [← e]; exact hb2F)
  have hbc : b ∉ Fc := h.dis b (by simp)
  have hb2c : b2 ∉ Fc := h.dis b2 (by simp)
  simp only [List.mem_cons, List.mem_append, not_or] at g1
  obtain ⟨gb, gbx, gby⟩ := g1
  have g3' : b2 ∉ Fr := g3 b2 (by simp)
  have hrc : r0.block ∉ Fc := fun hz => hr0 (h.sub _ (.inr hz))
  have hz1 : ZP (w.setCell ⟨b, E.size, none⟩ (.pointer py)) nt E r0 C q Fc := h.zp.keep (World.cell?_setCell_other _ _ _ _ (fun e => hbr (by rw [← e]))) (fun i hi => Below.heap_setCell _ _ _ _ (by rintro rfl; exact hbc hi))
  have hz2 : ZP ((w.setCell ⟨b, E.size, none⟩ (.pointer py)).setCell ⟨b2, E.size + 1, none⟩ (.pointer (some ⟨b, 0, none⟩))) nt E r0 C q Fc := hz1.keep (World.cell?_setCell_other _ _ _ _ (fun e => hb2r (by rw [← e]))) (fun i hi => Below.heap_setCell _ _ _ _ (by rintro rfl; exact hb2c hi))
  have hz3 := hz2.store hrc (some ⟨b2, 0, none⟩)
  have hla := E.len a
  have hlc := E.len c
  have hB : BC (((w.setCell ⟨b, E.size, none⟩ (.pointer py)).setCell ⟨b2, E.size + 1, none⟩ (.pointer (some ⟨b, 0, none⟩))).setCell q (.pointer (some ⟨b2, 0, none⟩))) b nt (nodeC E a py pr) := by
    have h1 := ((hb.set (j := E.size) (u := .pointer py)).far (p := ⟨b2, E.size + 1, none⟩) (u := .pointer (some ⟨b, 0, none⟩)) gb).far (p := q) (u := .pointer (some ⟨b2, 0, none⟩)) (fun e => hbq e.symm)
    have e : (nodeC E a (some ⟨b2, 0, none⟩) pr).set E.size (.pointer py) = nodeC E a py pr := by unfold nodeC; rw [List.set_append_right _ _ (by omega), hla]; simp
    rwa [e] at h1
  have hB2 : BC (((w.setCell ⟨b, E.size, none⟩ (.pointer py)).setCell ⟨b2, E.size + 1, none⟩ (.pointer (some ⟨b, 0, none⟩))).setCell q (.pointer (some ⟨b2, 0, none⟩))) b2 nt (nodeC E c px (some ⟨b, 0, none⟩)) := by
    have h1 := ((hb2.far (p := ⟨b, E.size, none⟩) (u := .pointer py) (fun e => gb e.symm)).set (j := E.size + 1) (u := .pointer (some ⟨b, 0, none⟩))).far (p := q) (u := .pointer (some ⟨b2, 0, none⟩)) (fun e => hb2q e.symm)
    have e : (nodeC E c px py).set (E.size + 1) (.pointer (some ⟨b, 0, none⟩)) = nodeC E c px (some ⟨b, 0, none⟩) := by unfold nodeC; rw [List.set_append_right _ _ (by omega), hlc]; simp
    rwa [e] at h1
  refine ⟨hz3, ?_, ?_, ?_, ?_, rfl, h.dir, ?_⟩
  · have h1 : ((w.setCell ⟨b, E.size, none⟩ (.pointer py)).setCell ⟨b2, E.size + 1, none⟩ (.pointer (some ⟨b, 0, none⟩))).cell? q = some (.pointer (some ⟨b, 0, none⟩)) := by
      rw [World.cell?_setCell_other _ _ _ _ (fun e => hb2q (by rw [← e])), World.cell?_setCell_other _ _ _ _ (fun e => hbq (by rw [← e]))]
      exact h.cell
    exact World.cell?_setCell_same' _ q _ (by rw [h1]; rfl)
  · rw [World.frozen?_setCell, World.frozen?_setCell, World.frozen?_setCell]; exact h.fz
  · refine MR.mk hB2 i1 ?_ ?_ (((hx.set gbx).set i1).set hxq) (MR.mk hB gby g2 (fun z hz => g3 z (by simp [hz])) (((hy.set gby).set i2).set hyq) (((hr.set g2).set g3').set hrq))
    · simp only [List.mem_cons, List.mem_append, not_or]; exact ⟨fun e => gb e.symm, i2, g3'⟩
    · intro z hz
      simp only [List.mem_cons, List.mem_append, not_or]
      exact ⟨fun e => gbx (by rw [← e]; exact hz), i3 z hz, g3 z (by simp [hz])⟩
  · intro z hz
    refine h.dis z ?_
    simp only [List.mem_cons, List.mem_append] at hz ⊢
    rcases hz with h1 | h1 | h1 | h1 | h1 <;> simp [h1]
  · intro z hz
    refine h.sub z (hz.imp (fun hz => ?_) id)
    simp only [List.mem_cons, List.mem_append] at hz ⊢
    rcases hz with h1 | h1 | h1 | h1 | h1 <;> simp [h1]
theorem At_.rotL (h : At_ w nt E kf r0 T F key C q (.node a l (.node c x y)) (some ⟨b, 0, none⟩) Fc (b :: (Fl ++ b2 :: (Fx ++ Fy)))) (hr0 : r0.block ∉ F)
    (hb : BC w b nt (nodeC E a pl (some ⟨b2, 0, none⟩))) (hb2 : BC w b2 nt (nodeC E c px py)) (g1 : b ∉ Fl) (g2 : b ∉ b2 :: (Fx ++ Fy)) (g3 : ∀ z ∈ Fl, z ∉ b2 :: (Fx ++ Fy)) (i1 : b2 ∉ Fx) (i2 : b2 ∉ Fy) (i3 : ∀ z ∈ Fx, z ∉ Fy)
    (hx : MR w nt E x px Fx) (hy : MR w nt E y py Fy) (hl : MR w nt E l pl Fl) :
    At_ (((w.setCell ⟨b, E.size + 1, none⟩ (.pointer px)).setCell ⟨b2, E.size, none⟩ (.pointer (some ⟨b, 0, none⟩))).setCell q (.pointer (some ⟨b2, 0, none⟩))) nt E kf r0 (plug C (.node c (.node a l x) y)) F key C q (.node c (.node a l x) y) (some ⟨b2, 0, none⟩) Fc (b2 :: ((b :: (Fl ++ Fx)) ++ Fy)) ∧
    (kf c < key → At_ (((w.setCell ⟨b, E.size + 1, none⟩ (.pointer px)).setCell ⟨b2, E.size, none⟩ (.pointer (some ⟨b, 0, none⟩))).setCell q (.pointer (some ⟨b2, 0, none⟩))) nt E kf r0 (plug C (.node c (.node a l x) y)) F key (⟨c, false, .node a l x⟩ :: C) ⟨b2, E.size + 1, none⟩ y py (b2 :: ((b :: (Fl ++ Fx)) ++ Fc)) Fy) := by
  have hbq : q.block ≠ b := h.qblk hr0 (by simp)
  have hb2q : q.block ≠ b2 := h.qblk hr0 (by simp)
  have hxq : q.block ∉ Fx := fun hz => h.qblk hr0 (i := q.block) (by simp [hz]) rfl
  have hyq : q.block ∉ Fy := fun hz => h.qblk hr0 (i := q.block) (by simp [hz]) rfl
  have hlq : q.block ∉ Fl := fun hz => h.qblk hr0 (i := q.block) (by simp [hz]) rfl
  have hbF : b ∈ F := h.sub b (.inl (by simp))
  have hb2F : b2 ∈ F := h.sub b2 (.inl (by simp))
  have hbr : b ≠ r0.block := fun e => hr0 (by rw [← e]; exact hbF)
  have hb2r : b2 ≠ r0.block := fun e => hr0 (by rw [← e]; exact hb2F)
  have hbc : b ∉ Fc := h.dis b (by simp)
  have hb2c : b2 ∉ Fc := h.dis b2 (by simp)
  simp only [List.mem_cons, List.mem_append, not_or] at g2
  obtain ⟨gb, gbx, gby⟩ := g2
  have g3' : b2 ∉ Fl := fun hz => g3 b2 hz (by simp)
  have hrc : r0.block ∉ Fc := fun hz => hr0 (h.sub _ (.inr hz))
  have hz1 : ZP (w.setCell ⟨b, E.size + 1, none⟩ (.pointer px)) nt E r0 C q Fc := h.zp.keep (World.cell?_setCell_other _ _ _ _ (fun e => hbr (by rw [← e]))) (fun i hi => Below.heap_setCell _ _ _ _ (by rintro rfl; exact hbc hi))
  have hz2 : ZP ((w.setCell ⟨b, E.size + 1, none⟩ (.pointer px)).setCell ⟨b2, E.size, none⟩ (.pointer (some ⟨b, 0, none⟩))) nt E r0 C q Fc := hz1.keep (World.cell?_setCell_other _ _ _ _ (fun e => hb2r (by rw [← e]))) (fun i hi => Below.heap_setCell _ _ _ _ (by rintro rfl; exact hb2c hi))
  have hz3 := hz2.store hrc (some ⟨b2, 0, none⟩)
  have hla := E.len a
  have hlc := E.len c
  have hB : BC (((w.setCell ⟨b, E.size + 1, none⟩ (.pointer px)).setCell ⟨b2, E.size, none⟩ (.pointer (some ⟨b, 0, none⟩))).setCell q (.pointer (some ⟨b2, 0, none⟩))) b nt (nodeC E a pl px) := by
    have h1 := ((hb.set (j := E.size + 1) (u := .pointer px)).far (p := ⟨b2, E.size, none⟩) (u := .pointer (some ⟨b, 0, none⟩)) gb).far (p := q) (u := .pointer (some ⟨b2, 0, none⟩)) (fun e => hbq e.symm)
    have e : (nodeC E a pl (some ⟨b2, 0, none⟩)).set (E.size + 1) (.pointer px) = nodeC E a pl px := by unfold nodeC; rw [List.set_append_right _ _ (by omega), hla]; simp
    rwa [e] at h1
  have hB2 : BC (((w.setCell ⟨b, E.size + 1, none⟩ (.pointer px)).setCell ⟨b2, E.size, none⟩ (.pointer (some ⟨b, 0, none⟩))).setCell q (.pointer (some ⟨b2, 0, none⟩))) b2 nt (nodeC E c (some ⟨b, 0, none⟩) py) := by
    have h1 := ((hb2.far (p := ⟨b, E.size + 1, none⟩) (u := .pointer px) (fun e => gb e.symm)).set (j := E.size) (u := .pointer (some ⟨b, 0, none⟩))).far (p := q) (u := .pointer (some ⟨b2, 0, none⟩)) (fun e => hb2q e.symm)
    have e : (nodeC E c px py).set E.size (.pointer (some ⟨b, 0, none⟩)) = nodeC E c (some ⟨b, 0, none⟩) py := by unfold nodeC; rw [List.set_append_right _ _ (by omega), hlc]; simp
    rwa [e] at h1
  have hm1 : MR (((w.setCell ⟨b, E.size + 1, none⟩ (.pointer px)).setCell ⟨b2, E.size, none⟩ (.pointer (some ⟨b, 0, none⟩))).setCell q (.pointer (some ⟨b2, 0, none⟩))) nt E (.node a l x) (some ⟨b, 0, none⟩) (b :: (Fl ++ Fx)) := MR.mk hB g1 gbx (fun z hz hz' => g3 z hz (by simp [hz'])) (((hl.set g1).set g3').set hlq) (((hx.set gbx).set i1).set hxq)
  have hm2 : MR (((w.setCell ⟨b, E.size + 1, none⟩ (.pointer px)).setCell ⟨b2, E.size, none⟩ (.pointer (some ⟨b, 0, none⟩))).setCell q (.pointer (some ⟨b2, 0, none⟩))) nt E y py Fy := ((hy.set gby).set i2).set hyq
  have hd1 : b2 ∉ b :: (Fl ++ Fx) := by simp only [List.mem_cons, List.mem_append, not_or]; exact ⟨fun e => gb e.symm, g3', i1⟩
  have hd2 : ∀ z ∈ b :: (Fl ++ Fx), z ∉ Fy := by
    intro z hz
    simp only [List.mem_cons, List.mem_append] at hz
    rcases hz with rfl | hz | hz
    · exact gby
    · exact fun hz' => g3 z hz (by simp [hz'])
    · exact i3 z hz
  suffices key0 : At_ (((w.setCell ⟨b, E.size + 1, none⟩ (.pointer px)).setCell ⟨b2, E.size, none⟩ (.pointer (some ⟨b, 0, none⟩))).setCell q (.pointer (some ⟨b2, 0, none⟩))) nt E kf r0 (plug C (.node c (.node a l x) y)) F key C q (.node c (.node a l x) y) (some ⟨b2, 0, none⟩) Fc (b2 :: ((b :: (Fl ++ Fx)) ++ Fy)) from ⟨key0, fun hck => (key0.down hB2 hd1 i2 hd2 hm1 hm2).2 hck⟩
  refine ⟨hz3, ?_, ?_, ?_, ?_, rfl, h.dir, ?_⟩
  · have h1 : ((w.setCell ⟨b, E.size + 1, none⟩ (.pointer px)).setCell ⟨b2, E.size, none⟩ (.pointer (some ⟨b, 0, none⟩))).cell? q = some (.pointer (some ⟨b, 0, none⟩)) := by
      rw [World.cell?_setCell_other _ _ _ _ (fun e => hb2q (by rw [← e])), World.cell?_setCell_other _ _ _ _ (fun e => hbq (by rw [← e]))]
      exact h.cell
    exact World.cell?_setCell_same' _ q _ (by rw [h1]; rfl)
  · rw [World.frozen?_setCell, World.frozen?_setCell, World.frozen?_setCell]; exact h.fz
  · exact MR.mk hB2 hd1 i2 hd2 hm1 hm2
  · intro z hz
    refine h.dis z ?_
    simp only [List.mem_cons, List.mem_append] at hz ⊢
    rcases hz with h1 | (h1 | h1 | h1) | h1 <;> simp [h1]
  · intro z hz
    refine h.sub z (hz.imp (fun hz => ?_) id)
    simp only [List.mem_cons, List.mem_append] at hz ⊢
    rcases hz with h1 | (h1 | h1 | h1) | h1 <;> simp [h1]
theorem At_.mk' {t : MT α} {p : Option Addr} {Ft : List Nat} {G : Nat → Prop} (h : At_ w nt E kf r0 T F key C q t p Fc Ft) {w' : World} (hk : Kf G w w') (hq : w'.cell? q = w.cell? q) (hf : w'.frozen? q = w.frozen? q) (hr : w'.cell? r0 = w.cell? r0) (hF : ∀ i ∈ F, ¬ G i) : At_ w' nt E kf r0 T F key C q t p Fc Ft :=
  ⟨h.zp.keep hr (fun i hi => by obtain ⟨cs, hb⟩ := h.zp.bc i hi; exact hk.block hb.lt (hF i (h.sub i (.inr hi)))), hq.trans h.cell, hf.trans h.fz, h.mr.kf hk (fun i hi => hF i (h.sub i (.inl hi))), h.dis, h.eq, h.dir, h.sub⟩
theorem At_.kp {t : MT α} {p : Option Addr} {Ft : List Nat} (h : At_ w nt E kf r0 T F key C q t p Fc Ft) {w' : World} (hk : Kp w w') (hr : r0.block < w.heap.size) : At_ w' nt E kf r0 T F key C q t p Fc Ft :=
  ⟨h.zp.kp hk hr, hk.cell h.cell, (hk.frozen (World.block_lt_of_cell? _ _ h.cell)).trans h.fz, h.mr.kp hk, h.dis, h.eq, h.dir, h.sub⟩
end
/-! Straight: which come up; the vine. -/
def preT : MT Int → List Int
  | .nil => []
  | .node c x y => c :: (preT x ++ preT y)
def toldT : MT Int → List Int
  | .nil => []
  | .node a l r => preT l ++ toldT r
theorem toldT_rot (a c : Int) (x y r : MT Int) : toldT (.node a (.node c x y) r) = c :: toldT (.node c x (.node a y r)) := by simp [toldT, preT]
theorem preT_len : ∀ t : MT Int, (preT t).length = t.size
  | .nil => rfl
  | .node c x y => by simp [preT, MT.size, preT_len x, preT_len y]; omega
theorem toldT_len : ∀ t : MT Int, (toldT t).length ≤ t.size
  | .nil => Nat.le_refl _
  | .node a l r => by have := toldT_len r; simp [toldT, MT.size, preT_len]; omega
def vineA : List Int → MT Int → MT Int
  | [], t => t
  | k :: ks, t => .node k .nil (vineA ks t)
theorem vineA_append : ∀ (a b : List Int) (t : MT Int), vineA (a ++ b) t = vineA a (vineA b t)
  | [], _, _ => rfl
  | k :: a, b, t => by simp [vineA, vineA_append a b t]
def vineM (ks : List Int) : MT Int := vineA ks .nil
def RtC (C : List (Fm Int)) : Prop := ∀ f ∈ C, f.left = false ∧ f.o = .nil
theorem plug_rt : ∀ (C : List (Fm Int)) (t : MT Int), RtC C → plug C t = vineA (C.map Fm.a).reverse t
  | [], _, _ => rfl
  | f :: C, t, h => by
    obtain ⟨h1, h2⟩ := h f (by simp)
    rw [plug, plug_rt C _ (fun g hg => h g (by simp [hg]))]
    simp only [List.map_cons, List.reverse_cons, vineA_append, vineA]
    simp [Fm.on, h1, h2]
/-- A number of the tree that a link holds. -/
noncomputable def mesAt (nt : TypeId) (v : Value) (w : World) : Nat := by
  classical
  exact if h : ∃ (q : Addr) (t : MT Int) (p : Option Addr) (F : List Nat), v = .pointer (some q) ∧ w.cell? q = some (.pointer p) ∧ MR w nt eInt t p F then h.choose_spec.choose.size + (toldT h.choose_spec.choose).length else 0
theorem MR.uniq2 {w : World} {nt : TypeId} : ∀ {t t' : MT Int} {p : Option Addr} {F F' : List Nat}, MR w nt eInt t p F → MR w nt eInt t' p F' → t = t'
  | .nil, .nil, _, _, _, _, _ => rfl
  | .nil, .node _ _ _, p, F, F', ⟨h, _⟩, ⟨b, _, _, _, _, h', _⟩ => by rw [h] at h'; cases h'
  | .node _ _ _, .nil, p, F, F', ⟨b, _, _, _, _, h', _⟩, ⟨h, _⟩ => by rw [h] at h'; cases h'
  | .node a l r, .node a' l' r', p, F, F', ⟨b, pl, pr, Fl, Fr, h1, _, h2, _, _, _, hl, hr⟩, ⟨b', pl', pr', Fl', Fr', h1', _, h2', _, _, _, hl', hr'⟩ => by
    rw [h1] at h1'
    injection h1' with h1'
    injection h1' with h1'
    subst h1'
    unfold BC at h2 h2'
    rw [h2] at h2'
    injection h2' with h2'
    injection h2' with h3
    have h4 : nodeC eInt a pl pr = nodeC eInt a' pl' pr' := by simpa using congrArg Array.toList h3
    simp [nodeC, eInt] at h4
    obtain ⟨rfl, rfl, rfl⟩ := h4
    rw [MR.uniq2 hl hl', MR.uniq2 hr hr']
theorem mesAt_eq {nt : TypeId} {w : World} {q : Addr} {t : MT Int} {p : Option Addr} {F : List Nat} (hc : w.cell? q = some (.pointer p)) (hm : MR w nt eInt t p F) : mesAt nt (.pointer (some q)) w = t.size + (toldT t).length := by
  unfold mesAt
  have h : ∃ (q' : Addr) (t : MT Int) (p : Option Addr) (F : List Nat), Value.pointer (some q) = .pointer (some q') ∧ w.cell? q' = some (.pointer p) ∧ MR w nt eInt t p F := ⟨q, t, p, F, rfl, hc, hm⟩
  rw [dif_pos h]
  obtain ⟨p', F', h1, h2, h3⟩ := h.choose_spec.choose_spec
  generalize h.choose_spec.choose = t' at h3
  generalize h.choose = q' at h1 h2
  injection h1 with h1
  injection h1 with h1
  subst h1
  rw [hc] at h2
  injection h2 with h2
  injection h2 with h2
  subst h2
  rw [MR.uniq2 h3 hm]
/-- Left by a call that tells: the nodes and the links stand. Left by the turns: only nodes and the root's link are written. -/
def KT (nt pt : TypeId) (B : Nat) (W W' : World) : Prop := (∀ i cs t, (t = nt ∨ t = pt) → BC W i t cs → BC W' i t cs) ∧ ∀ a : World, a.heap.size ≤ B → Kp a W → Kp a W'
def KN (nt pt : TypeId) (W W' : World) : Prop := Kf (fun i => ∃ t cs, (t = nt ∨ t = pt) ∧ BC W i t cs) W W'
theorem KN.trans {nt pt : TypeId} {a b c : World} (h : KN nt pt a b) (k : KN nt pt b c) : KN nt pt a c := by
  refine Kf.trans h k fun i hi ⟨t, cs, ht, hb⟩ => ?_
  classical
  by_cases hF : ∃ t cs, (t = nt ∨ t = pt) ∧ BC a i t cs
  · exact hF
  · have := h.block hi hF
    exact ⟨t, cs, ht, by unfold BC at *; rw [← this]; exact hb⟩
theorem KN.of {nt pt : TypeId} {a b : World} (h : Kp a b) : KN nt pt a b := Kf.of h
/-! Pressed. -/
def pressM : Nat → MT Int → MT Int
  | 0, t => t
  | k + 1, .node a l (.node c x y) => .node c (.node a l x) (pressM k y)
  | _ + 1, t => t
def rs : MT Int → Nat
  | .nil => 0
  | .node _ _ r => rs r + 1
theorem rs_two {t : MT Int} (h : 2 ≤ rs t) : ∃ a l c x y, t = .node a l (.node c x y) := by
  cases t with
  | nil => simp [rs] at h
  | node a l r =>
    cases r with
    | nil => simp [rs] at h
    | node c x y => exact ⟨a, l, c, x, y, rfl⟩
theorem rs_press : ∀ (k : Nat) (t : MT Int), 2 * k ≤ rs t → rs (pressM k t) + k = rs t
  | 0, t, _ => by simp [pressM]
  | k + 1, t, h => by
    obtain ⟨a, l, c, x, y, rfl⟩ := rs_two (t := t) (by omega)
    simp only [rs] at h
    have := rs_press k y (by omega)
    simp only [pressM, rs]; omega
theorem keys_press : ∀ (k : Nat) (t : MT Int), keysM id (pressM k t) = keysM id t
  | 0, t => rfl
  | k + 1, .nil => rfl
  | k + 1, .node a l .nil => rfl
  | k + 1, .node a l (.node c x y) => by simp [pressM, keysM, keys_press k y]
theorem rs_vine (ks : List Int) : rs (vineM ks) = ks.length := by
  have : ∀ ks, rs (vineA ks .nil) = ks.length := fun ks => by induction ks with
    | nil => rfl
    | cons k t ih => simp [vineA, rs, ih]
  exact this ks
theorem keys_vine (ks : List Int) : keysM id (vineM ks) = ks := by
  have : ∀ ks, keysM id (vineA ks .nil) = ks := fun ks => by induction ks with
    | nil => rfl
    | cons k t ih => simp [vineA, keysM, ih]
  exact this ks
def evenS : Nat → MT Int → MT Int
  | 0, t => t
  | j + 1, t => evenS j (pressM (2 ^ j - 1) t)
def upS : Nat → Nat
  | 0 => 0
  | j + 1 => (2 ^ j - 1) + upS j
theorem upS_le : ∀ j, upS j ≤ 2 ^ j
  | 0 => by simp [upS]
  | j + 1 => by have := upS_le j; rw [upS, Nat.pow_succ]; omega
def lgE (n : Nat) : Nat := (n + 1).log2
theorem lgE_spec (n : Nat) : 2 ^ lgE n ≤ n + 1 ∧ n + 1 < 2 ^ (lgE n + 1) := ⟨Nat.log2_self_le (by omega), Nat.lt_log2_self⟩
theorem lgE_eq {n j : Nat} (h1 : 2 ^ j ≤ n + 1) (h2 : n + 1 < 2 ^ (j + 1)) : j = lgE n := by
  obtain ⟨h3, h4⟩ := lgE_spec n
  rcases Nat.lt_trichotomy j (lgE n) with h | h | h
  · have := Nat.pow_le_pow_right (show 0 < 2 by omega) (show j + 1 ≤ lgE n by omega); omega
  · exact h
  · have := Nat.pow_le_pow_right (show 0 < 2 by omega) (show lgE n + 1 ≤ j by omega); omega
def evenT (ks : List Int) : MT Int := evenS (lgE ks.length) (pressM (ks.length + 1 - 2 ^ lgE ks.length) (vineM ks))
def upE (T : MT Int) : Nat := (toldT T).length + (T.size + 1 - 2 ^ lgE T.size) + upS (lgE T.size)
theorem keys_evenS : ∀ (j : Nat) (t : MT Int), keysM id (evenS j t) = keysM id t
  | 0, _ => rfl
  | j + 1, t => by rw [evenS, keys_evenS j, keys_press]
theorem keys_even (ks : List Int) : keysM id (evenT ks) = ks := by rw [evenT, keys_evenS, keys_press, keys_vine]
end Go.Proofs.Ytnpogfodopodoaa
