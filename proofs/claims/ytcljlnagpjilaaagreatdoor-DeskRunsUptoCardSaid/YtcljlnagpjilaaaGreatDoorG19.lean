/-
  grow.cut: what it answers
  shape.part, shape.Of: what they answer
  shape.Of: what it answers
  grow.right: what it answers
  grow.told, grow.Of, grow.Run: what they answer
  Trees of places: plain words, no program
-/
import Derived.Test.YtcljlnagpjilaaaGreatDoorG18
import Derived.Test.YtcljlnagpjilaaaGreatDoorG3
import Derived.Test.YtcljlnagpjilaaaGreatDoorG6
import Derived.Maps.OwnOps
import Derived.Maps.Views
import Derived.Test.YtcljlnagpjilaaaGreatDoorG10
import Derived.Test.YtcljlnagpjilaaaGreatDoorG1

set_option linter.unusedVariables false
set_option linter.unusedSimpArgs false
set_option maxRecDepth 100000
set_option maxHeartbeats 8000000
namespace Go.Proofs.YtcljlnagpjilaaaGreatDoor
open Go.ChangeShapes Go.WideShapes Go.ChangeAt Go.RowKit
def minA : MT IP -> IP
 | .nil => (0, 0)
 | .node a .nil _ => a
 | .node _ (.node b x y) _ => minA (.node b x y)
def delMin : MT IP -> MT IP
 | .nil => .nil
 | .node _ .nil r => r
 | .node a (.node b x y) r => .node a (delMin (.node b x y)) r
def delTop : MT IP -> MT IP -> MT IP
 | .nil, r => r
 | l, .nil => l
 | l, r => .node (minA r) l (delMin r)
theorem delTop_nn (a b : IP) (l r x y : MT IP) : delTop (.node a l r) (.node b x y) = .node (minA (.node b x y)) (.node a l r) (delMin (.node b x y)) := rfl
def del : MT IP -> Int -> MT IP
 | .nil, _ => .nil
 | .node a l r, k => if k < a.1 then .node a (del l k) r else if a.1 < k then .node a l (del r k) else delTop l r
theorem del_on {f : Fm IP} {k : Int} (h : (f.left = true -> k < f.a.1) /\ (f.left = false -> f.a.1 < k)) (t : MT IP) : del (f.on t) k = f.on (del t k) := by
 obtain ⟨a, left, o⟩ := f
 cases left with
 | true => simp [Fm.on, del, h.1 rfl]
 | false =>
  have := h.2 rfl
  simp only at this
  simp [Fm.on, del, this, show ¬ k < a.1 by omega]
theorem del_plug {k : Int} : ∀ (C : List (Fm IP)) (t : MT IP), Dir Prod.fst C k -> del (plug C t) k = plug C (del t k)
 | [], _, _ => rfl
 | f :: C, t, h => by
  have h1 := del_plug C (f.on t) (fun x hx => h x (by simp [hx]))
  rw [plug, h1, del_on (h f (by simp)), plug]
theorem min_plug : ∀ (C : List (Fm IP)) (a : IP) (x y : MT IP), (∀ f ∈ C, f.left = true) -> minA (plug C (.node a x y)) = minA (.node a x y) /\ delMin (plug C (.node a x y)) = plug C (delMin (.node a x y)) /\ ∃ b u v, plug C (.node a x y) = .node b u v
 | [], a, x, y, _ => ⟨rfl, rfl, a, x, y, rfl⟩
 | f :: C, a, x, y, h => by
  have hf := h f (by simp)
  have ho : ∀ t, f.on t = .node f.a t f.o := fun t => by simp [Fm.on, hf]
  obtain ⟨h1, h2, h3⟩ := min_plug C f.a (.node a x y) f.o (fun g hg => h g (by simp [hg]))
  rw [plug, ho]
  refine ⟨by rw [h1, minA], by rw [h2, delMin, plug, ho], h3⟩
theorem At_.putK {α : Type} {w w1 : World} {nt : TypeId} {E : Enc α} {kf : α -> Int} {r0 : Addr} {T : MT α} {F : List Nat} {key : Int} {C : List (Fm α)} {q : Addr} {t : MT α} {p : Option Addr} {Fc Ft : List Nat} (h : At_ w nt E kf r0 T F key C q t p Fc Ft)
  (hr : r0.block ∉ F) (hk : Kf (fun i => i ∈ Ft) w w1) (hrl : r0.block < w.heap.size) (hfr : w.frozen? r0 = false) {t' : MT α} {p' : Option Addr} {Ft' : List Nat} (hm : MR w1 nt E t' p' Ft') (hd : ∀ x ∈ Ft', x ∈ Ft) :
  ∃ p0 F0, (w1.setCell q (.pointer p')).cell? r0 = some (.pointer p0) /\ MR (w1.setCell q (.pointer p')) nt E (plug C t') p0 F0 /\ (∀ x ∈ F0, x ∈ F ∨ w.heap.size <= x) /\ (w1.setCell q (.pointer p')).frozen? r0 = false /\ Kf (fun i => i = r0.block ∨ i ∈ F) w (w1.setCell q (.pointer p')) /\ ∀ x ∈ F0, x ∈ Ft' ∨ x ∈ Fc := by
 have hfc : r0.block ∉ Fc := fun hx => hr (h.sub _ (.inr hx))
 have hrt : r0.block ∉ Ft := fun hx => hr (h.sub _ (.inl hx))
 have hqt : q.block ∉ Ft := by
  rcases h.zp.at_ with e | hx
  ·rw [e]; exact hrt
  ·exact fun h' => h.dis _ h' hx
 have hz1 := (h.zp.kf hk hrt hrl (fun i hi h' => h.dis i h' hi)).store hfc p'
 have hqc : (w1.setCell q (.pointer p')).cell? q = some (.pointer p') := World.cell?_setCell_same' w1 q _ (by rw [hk.cell hqt h.cell]; rfl)
 obtain ⟨p0, F0, g1, g2, g3⟩ := hz1.close hqc (hm.set (fun hx => hqt (hd _ hx))) (fun x hx => h.dis x (hd x hx))
 refine ⟨p0, F0, g1, g2, fun x hx => ?_, ?_, ?_, fun x hx => (g3 x).1 hx⟩
 ·rcases (g3 x).1 hx with hx | hx
  ·exact .inl (h.sub x (.inl (hd x hx)))
  ·exact .inl (h.sub x (.inr hx))
 ·rw [World.frozen?_setCell, hk.frozen hrl hrt]; exact hfr
 ·exact (hk.mono fun i _ hi => .inr (h.sub i (.inl hi))).set (.inl (h.zp.blk fun x hx => h.sub x (.inr hx)))
def CuRel (w : World) (r0 : Addr) (T : MT IP) (F : List Nat) (nt : TypeId) (qv : Value) (wr : World) : Prop :=
 ∃ C q a x y p Fc Ft, qv = .pointer (some q) /\ At_ w nt ePair (fun _ => 0) r0 T F (-1) C q (.node a x y) p Fc Ft /\ (∀ f ∈ C, f.left = true) /\ w = wr
theorem growCut_any (T : MT IP) (r0 : Addr) (p0 : Option Addr) (F : List Nat) (key : Int) (w : World) (hc : w.cell? r0 = some (.pointer p0)) (hf : w.frozen? r0 = false) (hm : MR w 241 ePair T p0 F) (hr : r0.block ∉ F) :
  Calls Tryz.prog 133 #[.pointer (some r0), .int .i64 key] w (TPost 241 ePair r0 (del T key) F w) := by
 have hrl := World.block_lt_of_cell? _ _ hc
 have HP := hide (place_any T r0 p0 F key w hc hf hm)
 have HF := hide hf
 clear hc hf hm
 go_enter Tryz.func133, Tryz.ntmps133
 go_wp2_with fail
 with_reducible refine HP.out.mono ?_
 rintro e w1 ⟨C, q, t, p, Fc, Ft, rfl, ha, hend, rfl⟩
 have HA := hide ha
 have HE := hide hend
 have c0 := ha.cell
 have f0 := ha.fz
 have hm := ha.mr
 have HRL := hide hrl
 clear hend ha
 cases p with
 | none =>
  obtain ⟨rfl, rfl⟩ := hm.of_none
  have HM := hide hm
  clear hm
  go_wp2
  obtain ⟨p1, F1, k1, k2, k3⟩ := HA.out.zp.close HA.out.cell HM.out HA.out.dis
  have hT : del T key = plug C .nil := by rw [HA.out.eq, del_plug C _ HA.out.dir]; rfl
  exact bodyPost_ret (v := .tuple #[]) (by simp [results, Tryz.results133, go_sem]) rfl ⟨p1, F1, rfl, k1, by rw [hT]; exact k2, fun x hx => .inl (HA.out.sub x ((k3 x).1 hx)), HF.out, Kf.refl _ _⟩
 | some ad =>
  obtain ⟨a, l, r, b, pl, pr, Fl, Fr, rfl, rfl, rfl, hb, g1, g2, g3, hl, hr2⟩ := hm.of_some
  have hak := HE.out a l r rfl
  have HT : Hid (del T key = plug C (delTop l r)) := hide (by rw [HA.out.eq, del_plug C _ HA.out.dir, del, if_neg (by omega), if_neg (by omega)])
  have cl : w.cell? ⟨b, 2, none⟩ = some (.pointer pl) := hb.link true
  have cr : w.cell? ⟨b, 3, none⟩ = some (.pointer pr) := hb.link false
  have HB := hide hb
  have HL := hide hl
  have HR2 := hide hr2
  have G1 := hide g1
  have G2 := hide g2
  have G3 := hide g3
  clear hm hb g1 g2 g3 hl hr2 hak
  cases pl with
  | none =>
   obtain ⟨rfl, rfl⟩ := HL.out.of_none
   go_wp2
   obtain ⟨p1, F1, q1, q2, q3, q4, q5, _⟩ := HA.out.putK hr (Kf.refl _ _) HRL.out HF.out HR2.out (fun x hx => by simp [hx])
   exact bodyPost_ret (v := .tuple #[]) (by simp [results, Tryz.results133, go_sem]) rfl ⟨p1, F1, rfl, q1, by rw [HT.out]; exact q2, q3, q4, q5⟩
  | some al =>
   obtain ⟨a2, l2, r2, b2, pl2, pr2, Fl2, Fr2, rfl, rfl, rfl, _⟩ := HL.out.of_some
   cases pr with
   | none =>
    obtain ⟨rfl, rfl⟩ := HR2.out.of_none
    go_wp2
    obtain ⟨p1, F1, q1, q2, q3, q4, q5, _⟩ := HA.out.putK hr (Kf.refl _ _) HRL.out HF.out HL.out (fun x hx => by simp at hx ⊢; rcases hx with h | h | h <;> simp [h])
    exact bodyPost_ret (v := .tuple #[]) (by simp [results, Tryz.results133, go_sem]) rfl ⟨p1, F1, rfl, q1, by rw [HT.out]; exact q2, q3, q4, q5⟩
   | some ar =>
    obtain ⟨a3, l3, r3, b3, pl3, pr3, Fl3, Fr3, rfl, rfl, rfl, _⟩ := HR2.out.of_some
    have HA2 := hide (At_.start (kf := fun _ => 0) (-1) cr (HB.out.frozen 3) HR2.out)
    go_wp2
    go_loopw [6] (CuRel w ⟨b, 3, none⟩ (.node a3 l3 r3) (b3 :: (Fl3 ++ Fr3)) 241) (szAt 241 ePair)
    case atStart => exact ⟨_, _, _, _, _, _, _, _, rfl, HA2.out, (fun f hf => by cases hf), rfl⟩
    case round =>
     obtain ⟨C2, q2, m, x, y, p2, Fc2, Ft2, rfl, ha2, hleft, rfl⟩ := hrel
     obtain ⟨b4, pl4, pr4, Fl4, Fr4, rfl, rfl, hb4, i1, i2, i3, hl4, hr4⟩ := ha2.mr
     have c2 := ha2.cell
     have cl4 : w.cell? ⟨b4, 2, none⟩ = some (.pointer pl4) := hb4.link true
     have cr4 : w.cell? ⟨b4, 3, none⟩ = some (.pointer pr4) := hb4.link false
     have HA3 := hide ha2
     have HLF := hide hleft
     cases pl4 with
     | some ad4 =>
      obtain ⟨a5, l5, r5, b5, pl5, pr5, Fl5, Fr5, rfl, rfl, rfl, _⟩ := hl4.of_some
      have HD := hide ((ha2.down hb4 i1 i2 i3 hl4 hr4).1 (by decide))
      have hms := szAt_eq c2 ha2.mr
      have hml : ∀ h : True, szAt 241 ePair (.pointer (some ⟨b4, 2, none⟩)) w = (MT.node a5 l5 r5).size := fun _ => szAt_eq (hb4.link true) hl4
      have HMS := hide hms
      have HML := hide hml
      clear hms hml ha2 hleft hb4 i1 i2 i3 hl4 hr4
      go_wp2
      go_roundw
      case rel => exact ⟨_, _, _, _, _, _, _, _, rfl, HD.out, (fun f hf => by rcases List.mem_cons.1 hf with rfl | hf; rfl; exact HLF.out f hf), rfl⟩
      case measure => rw [HML.out trivial, HMS.out]; simp only [MT.size]; omega
     | none =>
      obtain ⟨rfl, rfl⟩ := hl4.of_none
      have f2 := ha2.fz
      have hbF : b ∉ b3 :: (Fl3 ++ Fr3) := G2.out
      have hb4F : b4 ∈ b3 :: (Fl3 ++ Fr3) := ha2.sub b4 (.inl (by simp))
      have hb4c : b4 ∉ Fc2 := ha2.dis b4 (by simp)
      have hbb4 : b ≠ b4 := fun e => hbF (by rw [e]; exact hb4F)
      have hq2 : q2 = ⟨b, 3, none⟩ ∨ q2.block ∈ Fc2 := ha2.zp.at_
      have hq2b4 : q2.block ≠ b4 := by
       rcases hq2 with e | h
       ·rw [e]; exact hbb4
       ·intro e; rw [e] at h; exact hb4c h
      have hq2l : q2 ≠ ⟨b, 2, none⟩ := by
       rcases hq2 with e | h
       ·rw [e]; simp
       ·intro e; rw [e] at h; exact hbF (ha2.sub b (.inr h))
      have hq2L : q2.block ∉ b2 :: (Fl2 ++ Fr2) := by
       rcases hq2 with e | h
       ·rw [e]; exact G1.out
       ·intro h'; exact G3.out _ h' (ha2.sub _ (.inr h))
      have hblt : b < w.heap.size := HB.out.lt
      obtain ⟨p5, F5, e1, e2, _, _, e5, e6⟩ := ha2.putK hbF (Kf.refl _ _) hblt (HB.out.frozen 3) hr4 (fun x hx => by simp [hx])
      have hb4F5 : b4 ∉ F5 := fun h => by rcases e6 b4 h with h | h; exact i2 h; exact hb4c h
      obtain ⟨hmin1, hmin2, _⟩ := min_plug C2 m .nil y hleft
      have HREQ : Hid (delTop (.node a2 l2 r2) (.node a3 l3 r3) = .node m (.node a2 l2 r2) (plug C2 y)) := hide (by
       have e := ha2.eq
       rw [delTop_nn, e, hmin1, hmin2]; rfl)
      have w2 : (w.setCell q2 (.pointer pr4)).cell? ⟨b, 2, none⟩ = some (.pointer (some ⟨b2, 0, none⟩)) := by rw [World.cell?_setCell_other _ _ _ _ hq2l]; exact cl
      have w3 : (w.setCell q2 (.pointer pr4)).cell? ⟨b, 3, none⟩ = some (.pointer p5) := e1
      have hbc1 : BC (w.setCell q2 (.pointer pr4)) b4 241 (nodeC ePair m none pr4) := hb4.far (fun e => hq2b4 e.symm)
      have hL1 : MR (w.setCell q2 (.pointer pr4)) 241 ePair (.node a2 l2 r2) (some ⟨b2, 0, none⟩) (b2 :: (Fl2 ++ Fr2)) := HL.out.set hq2L
      have hk1 : Kf (fun i => i ∈ b :: (b2 :: (Fl2 ++ Fr2) ++ b3 :: (Fl3 ++ Fr3))) w (w.setCell q2 (.pointer pr4)) := e5.mono fun i _ hi => by
       rcases hi with h | h
       ·rw [h]; simp
       ·simp only [List.mem_cons, List.mem_append] at h ⊢; exact .inr (.inr h)
      have hqb4 : q.block ≠ b4 := by
       rcases HA.out.zp.at_ with e | h
       ·rw [e]; intro e'; exact hr (HA.out.sub _ (.inl (by rw [e']; simp only [List.mem_cons, List.mem_append] at hb4F ⊢; exact .inr (.inr hb4F))))
       ·intro e'; exact HA.out.dis b4 (by simp only [List.mem_cons, List.mem_append] at hb4F ⊢; exact .inr (.inr hb4F)) (by rw [<- e']; exact h)
      have hqq2 : q ≠ q2 := by
       intro e'
       have hin : q2.block ∈ b :: (b2 :: (Fl2 ++ Fr2) ++ b3 :: (Fl3 ++ Fr3)) := by
        rcases hq2 with e | h
        ·rw [e]; simp
        ·have := ha2.sub _ (.inr h); simp only [List.mem_cons, List.mem_append] at this ⊢; exact .inr (.inr this)
       rcases HA.out.zp.at_ with e | h
       ·exact hr (HA.out.sub _ (.inl (by rw [<- e, e']; exact hin)))
       ·exact HA.out.dis _ hin (by rw [<- e']; exact h)
      have w4 : (w.setCell q2 (.pointer pr4)).cell? q = some (.pointer (some ⟨b, 0, none⟩)) := by rw [World.cell?_setCell_other _ _ _ _ (fun e => hqq2 e.symm)]; exact c0
      have w5 : (w.setCell q2 (.pointer pr4)).frozen? q = false := by rw [World.frozen?_setCell]; exact f0
      obtain ⟨W1, hW1⟩ : ∃ W, W = w.setCell q2 (.pointer pr4) := ⟨_, rfl⟩
      rw [<- hW1] at w2 w3 w4 w5 hbc1 hL1 hk1 e2
      have v2 : W1.cell? ⟨b4, 2, none⟩ = some (.pointer none) := hbc1.cell 2
      have v3 : W1.cell? ⟨b4, 3, none⟩ = some (.pointer pr4) := hbc1.cell 3
      have v4 := hbc1.frozen 2
      have v5 := hbc1.frozen 3
      have n1 : ¬ b = b4 := hbb4
      have n2 : ¬ b4 = b := fun e => hbb4 e.symm
      have HBC1 := hide hbc1
      have HL1 := hide hL1
      have HK1 := hide hk1
      have HE2 := hide e2
      have HB4F5 := hide hb4F5
      have HB4L : Hid (b4 ∉ b2 :: (Fl2 ++ Fr2)) := hide (fun h => G3.out _ h hb4F)
      have HLF5 : Hid (∀ x ∈ b2 :: (Fl2 ++ Fr2), x ∉ F5) := hide (fun x hx h => by
       rcases e6 x h with h | h
       ·exact G3.out x hx (ha2.sub x (.inl (by simp [h])))
       ·exact G3.out x hx (ha2.sub x (.inr h)))
      have HSUB : Hid (∀ x ∈ b4 :: (b2 :: (Fl2 ++ Fr2) ++ F5), x ∈ b :: (b2 :: (Fl2 ++ Fr2) ++ b3 :: (Fl3 ++ Fr3))) := hide (fun x hx => by
       simp only [List.mem_cons, List.mem_append] at hx hb4F ⊢
       rcases hx with rfl | hx | hx
       ·exact .inr (.inr hb4F)
       ·exact .inr (.inl hx)
       ·rcases e6 x hx with h | h
        ·have := ha2.sub x (.inl (by simp [h])); simp only [List.mem_cons, List.mem_append] at this; exact .inr (.inr this)
        ·have := ha2.sub x (.inr h); simp only [List.mem_cons, List.mem_append] at this; exact .inr (.inr this))
      have HW1 := hide hW1
      have HQ4 := hide hqb4
      have hq4s : ∀ (j : Nat) (u : Value) (X : World), (X.setCell ⟨b4, j, none⟩ u).cell? q = X.cell? q := fun j u X => World.cell?_setCell_other _ _ _ _ (fun e => hqb4 (by rw [<- e]))
      have HCW := hide hW1
      clear ha2 hleft hb4 i1 i2 i3 hl4 hr4 hbF hb4F hb4c hbb4 hq2 hq2b4 hq2l hq2L hblt e1 e5 e6 hb4F5 hmin1 hmin2 hqq2 hbc1 hL1 hk1 e2 cl cr hW1
      go_wp2_with fail
      rw [<- HW1.out]
      clear c0 f0 f2 c2 cl4 cr4
      go_region_held3 (fun w' => w'.cell? ⟨b, 2, none⟩ = some (.pointer (some ⟨b2, 0, none⟩)) /\ w'.cell? ⟨b, 3, none⟩ = some (.pointer p5))
       (first | go_keep | fail)
       (fail)
      all_goals
       go_wp2
       have hb4in := HSUB.out b4 (by simp)
       have hbcX : BC ((W1.setCell ⟨b4, 2, none⟩ (.pointer (some ⟨b2, 0, none⟩))).setCell ⟨b4, 3, none⟩ (.pointer p5)) b4 241 (nodeC ePair m (some ⟨b2, 0, none⟩) p5) := (HBC1.out.set (j := 2)).set (j := 3)
       have hm := MR.mk hbcX HB4L.out HB4F5.out HLF5.out ((HL1.out.set (q := ⟨b4, 2, none⟩) HB4L.out).set (q := ⟨b4, 3, none⟩) HB4L.out) ((HE2.out.set (q := ⟨b4, 2, none⟩) HB4F5.out).set (q := ⟨b4, 3, none⟩) HB4F5.out)
       have hkX := (HK1.out.set (p := ⟨b4, 2, none⟩) (u := .pointer (some ⟨b2, 0, none⟩)) (.inl hb4in)).set (p := ⟨b4, 3, none⟩) (u := .pointer p5) (.inl hb4in)
       obtain ⟨p1, F1, q1, q2', q3, q4, q5, _⟩ := HA.out.putK hr hkX HRL.out HF.out hm HSUB.out
       refine bodyPost_ret (v := .tuple #[]) (by simp [results, Tryz.results133, go_sem]) rfl ⟨p1, F1, rfl, q1, by rw [HT.out, HREQ.out]; exact q2'.kp (Kp.refl _).drew, q3, q4, Kf.on q5 (Kp.refl _).drew⟩
def keysIn (l : List Int) : Prop := ∀ k ∈ l, 0 <= k /\ k <= 1000000
instance (l : List Int) : Decidable (keysIn l) := by unfold keysIn; infer_instance
theorem KO.none {g B : Nat} {w w' a : World} (h : KO g B w w') (hk : Kp a w) (hg : a.heap.size <= g) (hv : w.cell? ⟨g, 0, none⟩ = some (.slice none 0 0)) : Kp a w' :=
 h.kp hk hg fun v h1 => by
  rw [hv] at h1
  injection h1 with h1
  subst h1
  intro k hk
  simp [Value.ownBlock] at hk
theorem growTold_any (t : MT IP) (p : Option Addr) (F : List Nat) (w : World) (hm : MR w 241 ePair t p F) (hs : t.size <= 1000) : Calls Tryz.prog 134 #[.pointer p] w (RetRD ePair (t.spotsBy Prod.fst 0) w) := by
 have HO := hide (OB.new (B := w.heap.size) (st := 72) (e := 108) (E := ePair) w (Nat.le_refl _))
 have HC := hide (grow_spots_any w.heap.size w.heap.size (Nat.le_refl _) t p F 0 [] _ (hm.kp (Kp.refl w).alloc) (by omega) (by omega) (by simp; omega) HO.out (by simp))
 clear hm
 go_enter Tryz.func134, Tryz.ntmps134
 go_wp2_with fail
 with_reducible refine HC.out.mono ?_
 rintro e w1 ⟨rfl, ho1, hk1⟩
 have k1 := hk1.none (Kp.refl w).alloc (Nat.le_refl _) (by simp [go_sem])
 rw [List.nil_append] at ho1
 obtain ⟨u, hb, hu, hn⟩ := ho1
 have g0 := hb.cell 0
 obtain ⟨A3, N3, c3, rfl⟩ := hu.rd.slice
 have HU := hide hu.rd
 have K1 := hide k1
 clear hk1 hb hu hn k1
 go_wp2
 go_ret
 exact ⟨_, rfl, HU.out, K1.out.bel⟩
def TB {α : Type} (w : World) (nt : TypeId) (E : Enc α) (r0 : Addr) (base : Nat) (T : MT α) : Prop := ∃ p F, w.cell? r0 = some (.pointer p) /\ w.frozen? r0 = false /\ MR w nt E T p F /\ r0.block ∉ F /\ ∀ x ∈ F, base <= x
theorem TB.kp {α : Type} {w w' : World} {nt : TypeId} {E : Enc α} {r0 : Addr} {base : Nat} {T : MT α} (h : TB w nt E r0 base T) (hk : Kp w w') : TB w' nt E r0 base T := by
 obtain ⟨p, F, h1, h2, h3, h4, h5⟩ := h
 exact ⟨p, F, hk.cell h1, (hk.frozen (World.block_lt_of_cell? _ _ h1)).trans h2, h3.kp hk, h4, h5⟩
theorem TPost.tb {α : Type} {nt : TypeId} {E : Enc α} {r0 : Addr} {T T' : MT α} {F : List Nat} {w w0 w' : World} {e : Ending} {p : Option Addr} (h : TPost nt E r0 T' F w e w') (hc : w.cell? r0 = some (.pointer p)) (hr : r0.block ∉ F) (hF : ∀ x ∈ F, w0.heap.size <= x) (hk : Kp w0 w) (hr0 : w0.heap.size <= r0.block) :
  e = .returned (.tuple #[]) /\ TB w' nt E r0 w0.heap.size T' /\ Kp w0 w' /\ Kf (fun i => i = r0.block ∨ i ∈ F) w w' := by
 obtain ⟨p', F', rfl, h1, h2, h3, h4, h5⟩ := h
 have hrl := World.block_lt_of_cell? _ _ hc
 have hz := hk.size
 refine ⟨rfl, ⟨p', F', h1, h4, h2, fun hx => ?_, fun x hx => ?_⟩, h5.kp hk fun i hi => ?_, h5⟩
 ·rcases h3 _ hx with h | h
  ·exact hr h
  ·omega
 ·rcases h3 x hx with h | h
  ·exact hF x h
  ·omega
 ·rcases hi with rfl | hi
  ·exact hr0
  ·exact hF i hi
theorem ins_size : ∀ (T : MT IP) (p : IP), (ins T p).size <= T.size + 1
 | .nil, _ => by simp [ins, MT.size]
 | .node a l r, p => by
  have h1 := ins_size l p
  have h2 := ins_size r p
  unfold ins
  split
  ·simp only [MT.size]; omega
  ·split
   ·simp only [MT.size]; omega
   ·omega
theorem delMin_size : ∀ (T : MT IP), (delMin T).size <= T.size
 | .nil => by simp [delMin]
 | .node _ .nil r => by simp only [delMin, MT.size]; omega
 | .node a (.node b x y) r => by
  have := delMin_size (.node b x y)
  simp only [delMin, MT.size] at this ⊢; omega
theorem delTop_size (l r : MT IP) : (delTop l r).size <= l.size + 1 + r.size := by
 cases l with
 | nil => simp only [delTop, MT.size]; omega
 | node a x y =>
  cases r with
  | nil => simp only [delTop, MT.size]; omega
  | node b u v =>
   have := delMin_size (.node b u v)
   simp only [delTop_nn, MT.size] at this ⊢; omega
theorem del_size : ∀ (T : MT IP) (k : Int), (del T k).size <= T.size
 | .nil, _ => by simp [del]
 | .node a l r, k => by
  have h1 := del_size l k
  have h2 := del_size r k
  have h3 := delTop_size l r
  unfold del
  split
  ·simp only [MT.size]; omega
  ·split
   ·simp only [MT.size]; omega
   ·simp only [MT.size]; omega
def growS (T : MT IP) (o : O3) (a : An) : MT IP := if a.err ≠ 0 then T else if o.1 = 1 then ins T (o.2.1, o.2.2) else if o.1 = 3 then del T o.2.1 else T
def growT (z : List (O3 × An)) : MT IP := z.foldl (fun T p => growS T p.1 p.2) .nil
theorem growT_snoc (z : List (O3 × An)) (k : Nat) (h : k < z.length) : growT (z.take (k + 1)) = growS (growT (z.take k)) z[k].1 z[k].2 := by
 rw [List.take_succ_eq_append_getElem h, growT, List.foldl_append]; rfl
theorem growS_size (T : MT IP) (o : O3) (a : An) : (growS T o a).size <= T.size + 1 := by
 unfold growS
 split
 ·omega
 ·split
  ·exact ins_size _ _
  ·split
   ·have := del_size T o.2.1; omega
   ·omega
theorem growT_size (z : List (O3 × An)) (k : Nat) (h : k <= z.length) : (growT (z.take k)).size <= k := by
 induction k with
 | zero => simp [growT, MT.size]
 | succ k ih => rw [growT_snoc z k (by omega)]; have := growS_size (growT (z.take k)) z[k].1 z[k].2; have := ih (by omega); omega
def opsZ (ops : List O3) : List (O3 × An) := ops.zip (runL ops).2
def growRun (ops : List O3) : List IP × List An × Int := if ops.length > 300 then ([], [], 2) else ((growT (opsZ ops)).spotsBy Prod.fst 0, (runL ops).2, 0)
def GuRel (z : List (O3 × An)) (w0 : World) (r0 : Addr) (iv : Value) (wr : World) : Prop := ∃ k : Nat, k <= z.length /\ iv = .int .i64 k /\ TB wr 241 ePair r0 w0.heap.size (growT (z.take k)) /\ Kp w0 wr
theorem growRun_any (ops : List O3) (v : Value) (w : World) (hr : RD w eOp v ops) : Calls Tryz.prog 81 #[v] w (RunPost (growRun ops) w) := by
 obtain ⟨A, c, rfl, hc, hm⟩ := hr.shape
 have HR := hide hr
 have HRU := hide (fun W v h => run_any ops v W h)
 clear hr
 by_cases hlen : ops.length > 300
 ·have h1 : runOf ops = ([], [], 2) := by rw [runOf, if_pos hlen]
  have H1 : Hid (growRun ops = ([], [], 2)) := hide (by rw [growRun, if_pos hlen])
  rw [h1] at HRU
  clear h1
  go_enter Tryz.func81, Tryz.ntmps81
  go_wp2_with fail
  with_reducible refine (HRU.out _ _ HR.out).mono ?_
  rintro e w1 ⟨v1, u1, rfl, hr1, hu1, hb1⟩
  obtain ⟨A1, c1, rfl, _, _⟩ := hr1.shape
  obtain ⟨A2, c2, rfl, _, _⟩ := hu1.shape
  clear hr1 hu1
  go_wp2
  go_ret3
  exact ⟨_, _, by rw [H1.out]; rfl, by rw [H1.out]; exact RD.nil, by rw [H1.out]; exact RD.nil, hb1⟩
 ·have h1 : runOf ops = ((runL ops).1, (runL ops).2, 0) := by rw [runOf, if_neg hlen]
  have H1 : Hid (growRun ops = ((growT (opsZ ops)).spotsBy Prod.fst 0, (runL ops).2, 0)) := hide (by rw [growRun, if_neg hlen])
  have hal := runL_len ops ops.length (Nat.le_refl _)
  rw [List.take_length] at hal
  have hzl : (opsZ ops).length = ops.length := by rw [opsZ, List.length_zip, hal]; omega
  have hzk : ∀ k (h : k < (opsZ ops).length) (h1 : k < ops.length) (h2 : k < (runL ops).2.length), (opsZ ops)[k] = (ops[k], (runL ops).2[k]) := fun k h h1 h2 => by simp [opsZ]
  obtain ⟨z, hz⟩ : ∃ z, z = opsZ ops := ⟨_, rfl⟩
  rw [<- hz] at H1 hzl
  have HZK : Hid (∀ k (h : k < z.length) (h1 : k < ops.length) (h2 : k < (runL ops).2.length), z[k] = (ops[k], (runL ops).2[k])) := hide (by rw [hz]; exact hzk)
  rw [h1] at HRU
  obtain ⟨an, han⟩ : ∃ a, a = (runL ops).2 := ⟨_, rfl⟩
  rw [<- han] at HRU H1 HZK hal
  have HZL := hide hzl
  have HAL := hide hal
  clear h1 hz hzk hzl hal han
  go_enter Tryz.func81, Tryz.ntmps81
  go_wp2_with fail
  with_reducible refine (HRU.out _ _ HR.out).mono ?_
  rintro e w1 ⟨v1, u1, rfl, hr1, hu1, hb1⟩
  obtain ⟨A1, c1, rfl, _, _⟩ := hr1.shape
  obtain ⟨A2, c2, rfl, hc2, hm2⟩ := hu1.shape
  have k1 : Kp w w1 := hb1
  have HK1 := hide k1
  have hz1 := k1.size
  have HU := hide hu1
  have hcc : an.length <= 9223372036854775807 := by have h := hc2; simp only at h; omega
  clear hr1 hu1 hb1 k1
  go_wp2
  go_loopw [22] (GuRel z w1 ⟨w1.heap.size, 0, none⟩) (fun i _ => z.length - (intOf i).toNat)
  case atStart => exact ⟨0, by omega, rfl, ⟨none, [], by simp [go_sem], by simp [go_sem], MR.nil, by simp, by simp⟩, (Kp.refl w1).alloc⟩
  case round =>
   obtain ⟨k, hk, rfl, htb, hkp⟩ := hrel
   have hsz := growT_size z k hk
   by_cases hlt : k < z.length
   ·have hko : k < ops.length := by rw [<- HZL.out]; exact hlt
    have hka : k < an.length := by rw [HAL.out]; exact hko
    have dk : decide (k < ops.length) = true := by simp [hko]
    have bka : (k : Int) < (an.length : Int) := by omega
    have hkw := HK1.out.trans hkp
    obtain ⟨b, o, rfl, _, x0, x1, x2⟩ := (HR.out.kp hkw).op hko
    obtain ⟨b2, o2, rfl, _, y0, _, _, _⟩ := (HU.out.kp hkp).ans hka
    have y0' := ((Kp.refl wr).alloc (o := .cells #[.int .i64 ops[k].1, .int .i64 ops[k].2.1, .int .i64 ops[k].2.2] 82)).cell y0
    have hst := growT_snoc z k hlt
    rw [HZK.out k hlt hko hka] at hst
    simp only at hst
    have HTB := hide htb
    by_cases he : an[k].err = 0
    ·have d1 : (an[k].err != 0) = false := by simp [he]
     rw [growS, if_neg (by simpa using he)] at hst
     by_cases h1 : ops[k].1 = 1
     ·rw [if_pos h1] at hst
      have d2 : (ops[k].1 == 1) = true := by simp [h1]
      have HS := hide hst
      obtain ⟨p, F, q1, q2, q3, q4, q5⟩ := (htb.kp ((Kp.refl wr).alloc (o := .cells #[.int .i64 ops[k].1, .int .i64 ops[k].2.1, .int .i64 ops[k].2.2] 82)))
      have HP := hide (growPut_any (growT (z.take k)) ⟨w1.heap.size, 0, none⟩ p F ops[k].2.1 ops[k].2.2 _ q1 q2 q3 q4)
      have HQ1 := hide q1
      have HKP := hide hkp
      clear q2 q3 q1 hkp htb hst he h1
      go_wp2_with fail
      with_reducible refine HP.out.mono ?_
      intro e w2 hpost
      obtain ⟨rfl, htb2, hk2, _⟩ := hpost.tb (T := growT (z.take k)) HQ1.out q4 q5 HKP.out.alloc (Nat.le_refl _)
      rw [<- HS.out] at htb2
      have HT2 := hide htb2
      have HK2 := hide hk2
      clear hpost htb2 hk2
      go_wp2
      go_roundw
      case rel => exact ⟨k + 1, by omega, by go_num, HT2.out, HK2.out⟩
      case measure => simp [intOf]; omega
     ·rw [if_neg h1] at hst
      have d2 : (ops[k].1 == 1) = false := by simp [h1]
      by_cases h3 : ops[k].1 = 3
      ·rw [if_pos h3] at hst
       have d3 : (ops[k].1 == 3) = true := by simp [h3]
       have HS := hide hst
       obtain ⟨p, F, q1, q2, q3, q4, q5⟩ := (htb.kp ((Kp.refl wr).alloc (o := .cells #[.int .i64 ops[k].1, .int .i64 ops[k].2.1, .int .i64 ops[k].2.2] 82)))
       have HP := hide (growCut_any (growT (z.take k)) ⟨w1.heap.size, 0, none⟩ p F ops[k].2.1 _ q1 q2 q3 q4)
       have HQ1 := hide q1
       have HKP := hide hkp
       clear q2 q3 q1 hkp htb hst he h1 h3
       go_wp2_with fail
       with_reducible refine HP.out.mono ?_
       intro e w2 hpost
       obtain ⟨rfl, htb2, hk2, _⟩ := hpost.tb (T := growT (z.take k)) HQ1.out q4 q5 HKP.out.alloc (Nat.le_refl _)
       rw [<- HS.out] at htb2
       have HT2 := hide htb2
       have HK2 := hide hk2
       clear hpost htb2 hk2
       go_wp2
       go_roundw
       case rel => exact ⟨k + 1, by omega, by go_num, HT2.out, HK2.out⟩
       case measure => simp [intOf]; omega
      ·rw [if_neg h3] at hst
       have d3 : (ops[k].1 == 3) = false := by simp [h3]
       have HS := hide hst
       clear hst he h1 h3
       go_wp2
       go_roundw
       case rel => exact ⟨k + 1, by omega, by go_num, by rw [HS.out]; exact HTB.out.kp (Kp.refl wr).alloc, hkp.alloc⟩
       case measure => simp [intOf]; omega
    ·have d1 : (an[k].err != 0) = true := by simp [he]
     rw [growS, if_pos (by simpa using he)] at hst
     have HS := hide hst
     clear hst he
     go_wp2
     go_roundw
     case rel => exact ⟨k + 1, by omega, by go_num, by rw [HS.out]; exact HTB.out.kp (Kp.refl wr).alloc, hkp.alloc⟩
     case measure => simp [intOf]; omega
   ·have hkl : k = z.length := by omega
    have dk : decide (k < ops.length) = false := by have := HZL.out; simp; omega
    have hS : Hid (z.take k = z) := hide (List.take_of_length_le (by omega))
    obtain ⟨p, F, q1, q2, q3, q4, q5⟩ := htb
    have hzz := HZL.out
    have HT := hide (growTold_any (growT (z.take k)) p F wr q3 (by omega))
    have HKP := hide hkp
    have HKW := hide (HK1.out.trans hkp)
    clear q2 q3 hkp hzz hkl
    go_wp2_with fail
    with_reducible refine HT.out.mono ?_
    rintro e w2 ⟨v2, rfl, hr2, hb2⟩
    have HR2 := hide hr2
    have HB2 := hide (Kp.of hb2)
    clear hr2 hb2
    go_wp2
    go_ret3
    exact ⟨_, _, by rw [H1.out]; rfl, by rw [H1.out]; have h := HR2.out; rwa [hS.out] at h, by rw [H1.out]; exact HU.out.kp (HKP.out.trans HB2.out), (HKW.out.trans HB2.out).bel⟩
inductive PT where
 | nil
 | node (p : Nat) (l r : PT)
def PT.size : PT -> Nat
 | .nil => 0
 | .node _ l r => l.size + 1 + r.size
def PT.At : PT -> Nat -> Prop
 | .nil, _ => True
 | .node p l r, off => p = off + l.size /\ l.At off /\ r.At (p + 1)
def PT.pars : PT -> Int -> List Int
 | .nil, _ => []
 | .node p l r, up => l.pars p ++ [up] ++ r.pars p
def PT.deps : PT -> Int -> List Int
 | .nil, _ => []
 | .node p l r, d => l.deps (d + 1) ++ [d] ++ r.deps (d + 1)
theorem PT.pars_len : ∀ (t : PT) (up : Int), (t.pars up).length = t.size
 | .nil, _ => rfl
 | .node p l r, up => by simp [pars, size, pars_len l, pars_len r]; omega
theorem PT.deps_len : ∀ (t : PT) (d : Int), (t.deps d).length = t.size
 | .nil, _ => rfl
 | .node p l r, d => by simp [deps, size, deps_len l, deps_len r]; omega
end Go.Proofs.YtcljlnagpjilaaaGreatDoor
