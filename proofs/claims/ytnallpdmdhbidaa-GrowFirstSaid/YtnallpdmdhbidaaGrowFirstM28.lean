/-
  grow.cut: what it answers. Conditions: the tree that the link holds is written as MR says.
-/
import Derived.Test.YtnallpdmdhbidaaGrowFirstM27

namespace Go.Proofs.Ytnallpdmdhbidaa
open Go.ChangeShapes Go.WideShapes Go.ChangeAt Go.RowKit
set_option linter.unusedVariables false
set_option linter.unusedSimpArgs false

def minA : MT IP → IP
  | .nil => (0, 0)
  | .node a .nil _ => a
  | .node _ (.node b x y) _ => minA (.node b x y)
def delMin : MT IP → MT IP
  | .nil => .nil
  | .node _ .nil r => r
  | .node a (.node b x y) r => .node a (delMin (.node b x y)) r
def delTop : MT IP → MT IP → MT IP
  | .nil, r => r
  | l, .nil => l
  | l, r => .node (minA r) l (delMin r)
theorem delTop_nn (a b : IP) (l r x y : MT IP) : delTop (.node a l r) (.node b x y) = .node (minA (.node b x y)) (.node a l r) (delMin (.node b x y)) := rfl
def del : MT IP → Int → MT IP
  | .nil, _ => .nil
  | .node a l r, k => if k < a.1 then .node a (del l k) r else if a.1 < k then .node a l (del r k) else delTop l r
theorem del_on {f : Fm IP} {k : Int} (h : (f.left = true → k < f.a.1) ∧ (f.left = false → f.a.1 < k)) (t : MT IP) : del (f.on t) k = f.on (del t k) := by
  obtain ⟨a, left, o⟩ := f
  cases left with
  | true => simp [Fm.on, del, h.1 rfl]
  | false =>
    have := h.2 rfl
    simp only at this
    simp [Fm.on, del, this, show ¬ k < a.1 by omega]
theorem del_plug {k : Int} : ∀ (C : List (Fm IP)) (t : MT IP), Dir Prod.fst C k → del (plug C t) k = plug C (del t k)
  | [], _, _ => rfl
  | f :: C, t, h => by
    have h1 := del_plug C (f.on t) (fun x hx => h x (by simp [hx]))
    rw [plug, h1, del_on (h f (by simp)), plug]
theorem min_plug : ∀ (C : List (Fm IP)) (a : IP) (x y : MT IP), (∀ f ∈ C, f.left = true) → minA (plug C (.node a x y)) = minA (.node a x y) ∧ delMin (plug C (.node a x y)) = plug C (delMin (.node a x y)) ∧ ∃ b u v, plug C (.node a x y) = .node b u v
  | [], a, x, y, _ => ⟨rfl, rfl, a, x, y, rfl⟩
  | f :: C, a, x, y, h => by
    have hf := h f (by simp)
    have ho : ∀ t, f.on t = .node f.a t f.o := fun t => by simp [Fm.on, hf]
    obtain ⟨h1, h2, h3⟩ := min_plug C f.a (.node a x y) f.o (fun g hg => h g (by simp [hg]))
    rw [plug, ho]
    refine ⟨by rw [h1, minA], by rw [h2, delMin, plug, ho], h3⟩

theorem At_.putK {α : Type} {w w1 : World} {nt : TypeId} {E : Enc α} {kf : α → Int} {r0 : Addr} {T : MT α} {F : List Nat} {key : Int} {C : List (Fm α)} {q : Addr} {t : MT α} {p : Option Addr} {Fc Ft : List Nat} (h : At_ w nt E kf r0 T F key C q t p Fc Ft)
    (hr : r0.block ∉ F) (hk : Kf (fun i => i ∈ Ft) w w1) (hrl : r0.block < w.heap.size) (hfr : w.frozen? r0 = false) {t' : MT α} {p' : Option Addr} {Ft' : List Nat} (hm : MR w1 nt E t' p' Ft') (hd : ∀ x ∈ Ft', x ∈ Ft) :
    ∃ p0 F0, (w1.setCell q (.pointer p')).cell? r0 = some (.pointer p0) ∧ MR (w1.setCell q (.pointer p')) nt E (plug C t') p0 F0 ∧ (∀ x ∈ F0, x ∈ F ∨ w.heap.size ≤ x) ∧ (w1.setCell q (.pointer p')).frozen? r0 = false ∧ Kf (fun i => i = r0.block ∨ i ∈ F) w (w1.setCell q (.pointer p')) ∧ ∀ x ∈ F0, x ∈ Ft' ∨ x ∈ Fc := by
  have hfc : r0.block ∉ Fc := fun hx => hr (h.sub _ (.inr hx))
  have hrt : r0.block ∉ Ft := fun hx => hr (h.sub _ (.inl hx))
  have hqt : q.block ∉ Ft := by
    rcases h.zp.at_ with e | hx
    · rw [e]; exact hrt
    · exact fun h' => h.dis _ h' hx
  have hz1 := (h.zp.kf hk hrt hrl (fun i hi h' => h.dis i h' hi)).store hfc p'
  have hqc : (w1.setCell q (.pointer p')).cell? q = some (.pointer p') := World.cell?_setCell_same' w1 q _ (by rw [hk.cell hqt h.cell]; rfl)
  obtain ⟨p0, F0, g1, g2, g3⟩ := hz1.close hqc (hm.set (fun hx => hqt (hd _ hx))) (fun x hx => h.dis x (hd x hx))
  refine ⟨p0, F0, g1, g2, fun x hx => ?_, ?_, ?_, fun x hx => (g3 x).1 hx⟩
  · rcases (g3 x).1 hx with hx | hx
    · exact .inl (h.sub x (.inl (hd x hx)))
    · exact .inl (h.sub x (.inr hx))
  · rw [World.frozen?_setCell, hk.frozen hrl hrt]; exact hfr
  · exact (hk.mono fun i _ hi => .inr (h.sub i (.inl hi))).set (.inl (h.zp.blk fun x hx => h.sub x (.inr hx)))

def CuRel (w : World) (r0 : Addr) (T : MT IP) (F : List Nat) (nt : TypeId) (qv : Value) (wr : World) : Prop :=
  ∃ C q a x y p Fc Ft, qv = .pointer (some q) ∧ At_ w nt ePair (fun _ => 0) r0 T F (-1) C q (.node a x y) p Fc Ft ∧ (∀ f ∈ C, f.left = true) ∧ w = wr
set_option maxRecDepth 100000 in
set_option maxHeartbeats 8000000 in
theorem growCut_any (T : MT IP) (r0 : Addr) (p0 : Option Addr) (F : List Nat) (key : Int) (w : World) (hc : w.cell? r0 = some (.pointer p0)) (hf : w.frozen? r0 = false) (hm : MR w 92 ePair T p0 F) (hr : r0.block ∉ F) :
    Calls Try.prog 34 #[.pointer (some r0), .int .i64 key] w (TPost 92 ePair r0 (del T key) F w) := by
  have hrl := World.block_lt_of_cell? _ _ hc
  have HP := hide (place_any T r0 p0 F key w hc hf hm)
  have HF := hide hf
  clear hc hf hm
  go_enter Try.func34, Try.ntmps34
  go_wp2_with fail
  with_reducible refine HP.out.mono ?_
  rintro e w1 ⟨C, q, t, p, Fc, Ft, rfl, ha, hend, rfl⟩
  have HA := hide ha
  have HE := hide hend
  have c0 := ha.cell
  have f0 := ha.fz
  have hm := ha.mr
  have HRL := hide hrl
  clear hend ha
  cases p with
  | none =>
    obtain ⟨rfl, rfl⟩ := hm.of_none
    have HM := hide hm
    clear hm
    go_wp2
    obtain ⟨p1, F1, k1, k2, k3⟩ := HA.out.zp.close HA.out.cell HM.out HA.out.dis
    have hT : del T key = plug C .nil := by rw [HA.out.eq, del_plug C _ HA.out.dir]; rfl
    exact bodyPost_ret (v := .tuple #[]) (by simp [results, Try.results34, go_sem]) rfl ⟨p1, F1, rfl, k1, by rw [hT]; exact k2, fun x hx => .inl (HA.out.sub x ((k3 x).1 hx)), HF.out, Kf.refl _ _⟩
  | some ad =>
    obtain ⟨a, l, r, b, pl, pr, Fl, Fr, rfl, rfl, rfl, hb, g1, g2, g3, hl, hr2⟩ := hm.of_some
    have hak := HE.out a l r rfl
    have HT : Hid (del T key = plug C (delTop l r)) := hide (by rw [HA.out.eq, del_plug C _ HA.out.dir, del, if_neg (by omega), if_neg (by omega)])
    have cl : w.cell? ⟨b, 2, none⟩ = some (.pointer pl) := hb.link true
    have cr : w.cell? ⟨b, 3, none⟩ = some (.pointer pr) := hb.link false
    have HB := hide hb
    have HL := hide hl
    have HR2 := hide hr2
    have G1 := hide g1
    have G2 := hide g2
    have G3 := hide g3
    clear hm hb g1 g2 g3 hl hr2 hak
    cases pl with
    | none =>
      obtain ⟨rfl, rfl⟩ := HL.out.of_none
      go_wp2
      obtain ⟨p1, F1, q1, q2, q3, q4, q5, _⟩ := HA.out.putK hr (Kf.refl _ _) HRL.out HF.out HR2.out (fun x hx => by simp [hx])
      exact bodyPost_ret (v := .tuple #[]) (by simp [results, Try.results34, go_sem]) rfl ⟨p1, F1, rfl, q1, by rw [HT.out]; exact q2, q3, q4, q5⟩
    | some al =>
      obtain ⟨a2, l2, r2, b2, pl2, pr2, Fl2, Fr2, rfl, rfl, rfl, _⟩ := HL.out.of_some
      cases pr with
      | none =>
        obtain ⟨rfl, rfl⟩ := HR2.out.of_none
        go_wp2
        obtain ⟨p1, F1, q1, q2, q3, q4, q5, _⟩ := HA.out.putK hr (Kf.refl _ _) HRL.out HF.out HL.out (fun x hx => by simp at hx ⊢; rcases hx with h | h | h <;> simp [h])
        exact bodyPost_ret (v := .tuple #[]) (by simp [results, Try.results34, go_sem]) rfl ⟨p1, F1, rfl, q1, by rw [HT.out]; exact q2, q3, q4, q5⟩
      | some ar =>
        obtain ⟨a3, l3, r3, b3, pl3, pr3, Fl3, Fr3, rfl, rfl, rfl, _⟩ := HR2.out.of_some
        have HA2 := hide (At_.start (kf := fun _ => 0) (-1) cr (HB.out.frozen 3) HR2.out)
        go_wp2
        go_loopw [6] (CuRel w ⟨b, 3, none⟩ (.node a3 l3 r3) (b3 :: (Fl3 ++ Fr3)) 92) (szAt 92 ePair)
        case atStart => exact ⟨_, _, _, _, _, _, _, _, rfl, HA2.out, (fun f hf => by cases hf), rfl⟩
        case round =>
          obtain ⟨C2, q2, m, x, y, p2, Fc2, Ft2, rfl, ha2, hleft, rfl⟩ := hrel
          obtain ⟨b4, pl4, pr4, Fl4, Fr4, rfl, rfl, hb4, i1, i2, i3, hl4, hr4⟩ := ha2.mr
          have c2 := ha2.cell
          have cl4 : w.cell? ⟨b4, 2, none⟩ = some (.pointer pl4) := hb4.link true
          have cr4 : w.cell? ⟨b4, 3, none⟩ = some (.pointer pr4) := hb4.link false
          have HA3 := hide ha2
          have HLF := hide hleft
          cases pl4 with
          | some ad4 =>
            obtain ⟨a5, l5, r5, b5, pl5, pr5, Fl5, Fr5, rfl, rfl, rfl, _⟩ := hl4.of_some
            have HD := hide ((ha2.down hb4 i1 i2 i3 hl4 hr4).1 (by decide))
            have hms := szAt_eq c2 ha2.mr
            have hml : ∀ h : True, szAt 92 ePair (.pointer (some ⟨b4, 2, none⟩)) w = (MT.node a5 l5 r5).size := fun _ => szAt_eq (hb4.link true) hl4
            have HMS := hide hms
            have HML := hide hml
            clear hms hml ha2 hleft hb4 i1 i2 i3 hl4 hr4
            go_wp2
            go_roundw
            case rel => exact ⟨_, _, _, _, _, _, _, _, rfl, HD.out, (fun f hf => by rcases List.mem_cons.1 hf with rfl | hf; rfl; exact HLF.out f hf), rfl⟩
            case measure => rw [HML.out trivial, HMS.out]; simp only [MT.size]; omega
          | none =>
            obtain ⟨rfl, rfl⟩ := hl4.of_none
            have f2 := ha2.fz
            have hbF : b ∉ b3 :: (Fl3 ++ Fr3) := G2.out
            have hb4F : b4 ∈ b3 :: (Fl3 ++ Fr3) := ha2.sub b4 (.inl (by simp))
            have hb4c : b4 ∉ Fc2 := ha2.dis b4 (by simp)
            have hbb4 : b ≠ b4 := fun e => hbF (by rw [e]; exact hb4F)
            have hq2 : q2 = ⟨b, 3, none⟩ ∨ q2.block ∈ Fc2 := ha2.zp.at_
            have hq2b4 : q2.block ≠ b4 := by
              rcases hq2 with e | h
              · rw [e]; exact hbb4
              · intro e; rw [e] at h; exact hb4c h
            have hq2l : q2 ≠ ⟨b, 2, none⟩ := by
              rcases hq2 with e | h
              · rw [e]; simp
              · intro e; rw [e] at h; exact hbF (ha2.sub b (.inr h))
            have hq2L : q2.block ∉ b2 :: (Fl2 ++ Fr2) := by
              rcases hq2 with e | h
              · rw [e]; exact G1.out
              · intro h'; exact G3.out _ h' (ha2.sub _ (.inr h))
            have hblt : b < w.heap.size := HB.out.lt
            obtain ⟨p5, F5, e1, e2, _, _, e5, e6⟩ := ha2.putK hbF (Kf.refl _ _) hblt (HB.out.frozen 3) hr4 (fun x hx => by simp [hx])
            have hb4F5 : b4 ∉ F5 := fun h => by rcases e6 b4 h with h | h; exact i2 h; exact hb4c h
            obtain ⟨hmin1, hmin2, _⟩ := min_plug C2 m .nil y hleft
            have HREQ : Hid (delTop (.node a2 l2 r2) (.node a3 l3 r3) = .node m (.node a2 l2 r2) (plug C2 y)) := hide (by
              have e := ha2.eq
              rw [delTop_nn, e, hmin1, hmin2]; rfl)
            have w2 : (w.setCell q2 (.pointer pr4)).cell? ⟨b, 2, none⟩ = some (.pointer (some ⟨b2, 0, none⟩)) := by rw [World.cell?_setCell_other _ _ _ _ hq2l]; exact cl
            have w3 : (w.setCell q2 (.pointer pr4)).cell? ⟨b, 3, none⟩ = some (.pointer p5) := e1
            have hbc1 : BC (w.setCell q2 (.pointer pr4)) b4 92 (nodeC ePair m none pr4) := hb4.far (fun e => hq2b4 e.symm)
            have hL1 : MR (w.setCell q2 (.pointer pr4)) 92 ePair (.node a2 l2 r2) (some ⟨b2, 0, none⟩) (b2 :: (Fl2 ++ Fr2)) := HL.out.set hq2L
            have hk1 : Kf (fun i => i ∈ b :: (b2 :: (Fl2 ++ Fr2) ++ b3 :: (Fl3 ++ Fr3))) w (w.setCell q2 (.pointer pr4)) := e5.mono fun i _ hi => by
              rcases hi with h | h
              · rw [h]; simp
              · simp only [List.mem_cons, List.mem_append] at h ⊢; exact .inr (.inr h)
            have hqb4 : q.block ≠ b4 := by
              rcases HA.out.zp.at_ with e | h
              · rw [e]; intro e'; exact hr (HA.out.sub _ (.inl (by rw [e']; simp only [List.mem_cons, List.mem_append] at hb4F ⊢; exact .inr (.inr hb4F))))
              · intro e'; exact HA.out.dis b4 (by simp only [List.mem_cons, List.mem_append] at hb4F ⊢; exact .inr (.inr hb4F)) (by rw [← e']; exact h)
            have hqq2 : q ≠ q2 := by
              intro e'
              have hin : q2.block ∈ b :: (b2 :: (Fl2 ++ Fr2) ++ b3 :: (Fl3 ++ Fr3)) := by
                rcases hq2 with e | h
                · rw [e]; simp
                · have := ha2.sub _ (.inr h); simp only [List.mem_cons, List.mem_append] at this ⊢; exact .inr (.inr this)
              rcases HA.out.zp.at_ with e | h
              · exact hr (HA.out.sub _ (.inl (by rw [← e, e']; exact hin)))
              · exact HA.out.dis _ hin (by rw [← e']; exact h)
            have w4 : (w.setCell q2 (.pointer pr4)).cell? q = some (.pointer (some ⟨b, 0, none⟩)) := by rw [World.cell?_setCell_other _ _ _ _ (fun e => hqq2 e.symm)]; exact c0
            have w5 : (w.setCell q2 (.pointer pr4)).frozen? q = false := by rw [World.frozen?_setCell]; exact f0
            obtain ⟨W1, hW1⟩ : ∃ W, W = w.setCell q2 (.pointer pr4) := ⟨_, rfl⟩
            rw [← hW1] at w2 w3 w4 w5 hbc1 hL1 hk1 e2
            have v2 : W1.cell? ⟨b4, 2, none⟩ = some (.pointer none) := hbc1.cell 2
            have v3 : W1.cell? ⟨b4, 3, none⟩ = some (.pointer pr4) := hbc1.cell 3
            have v4 := hbc1.frozen 2
            have v5 := hbc1.frozen 3
            have n1 : ¬ b = b4 := hbb4
            have n2 : ¬ b4 = b := fun e => hbb4 e.symm
            have HBC1 := hide hbc1
            have HL1 := hide hL1
            have HK1 := hide hk1
            have HE2 := hide e2
            have HB4F5 := hide hb4F5
            have HB4L : Hid (b4 ∉ b2 :: (Fl2 ++ Fr2)) := hide (fun h => G3.out _ h hb4F)
            have HLF5 : Hid (∀ x ∈ b2 :: (Fl2 ++ Fr2), x ∉ F5) := hide (fun x hx h => by
              rcases e6 x h with h | h
              · exact G3.out x hx (ha2.sub x (.inl (by simp [h])))
              · exact G3.out x hx (ha2.sub x (.inr h)))
            have HSUB : Hid (∀ x ∈ b4 :: (b2 :: (Fl2 ++ Fr2) ++ F5), x ∈ b :: (b2 :: (Fl2 ++ Fr2) ++ b3 :: (Fl3 ++ Fr3))) := hide (fun x hx => by
              simp only [List.mem_cons, List.mem_append] at hx hb4F ⊢
              rcases hx with rfl | hx | hx
              · exact .inr (.inr hb4F)
              · exact .inr (.inl hx)
              · rcases e6 x hx with h | h
                · have := ha2.sub x (.inl (by simp [h])); simp only [List.mem_cons, List.mem_append] at this; exact .inr (.inr this)
                · have := ha2.sub x (.inr h); simp only [List.mem_cons, List.mem_append] at this; exact .inr (.inr this))
            have HW1 := hide hW1
            have HQ4 := hide hqb4
            have hq4s : ∀ (j : Nat) (u : Value) (X : World), (X.setCell ⟨b4, j, none⟩ u).cell? q = X.cell? q := fun j u X => World.cell?_setCell_other _ _ _ _ (fun e => hqb4 (by rw [← e]))
            have HCW := hide hW1
            clear ha2 hleft hb4 i1 i2 i3 hl4 hr4 hbF hb4F hb4c hbb4 hq2 hq2b4 hq2l hq2L hblt e1 e5 e6 hb4F5 hmin1 hmin2 hqq2 hbc1 hL1 hk1 e2 cl cr hW1
            go_wp2_with fail
            rw [← HW1.out]
            clear c0 f0 f2 c2 cl4 cr4
            go_region_held3 (fun w' => w'.cell? ⟨b, 2, none⟩ = some (.pointer (some ⟨b2, 0, none⟩)) ∧ w'.cell? ⟨b, 3, none⟩ = some (.pointer p5))
              (first | go_keep | fail)
              (fail)
            all_goals
              go_wp2
              have hb4in := HSUB.out b4 (by simp)
              have hbcX : BC ((W1.setCell ⟨b4, 2, none⟩ (.pointer (some ⟨b2, 0, none⟩))).setCell ⟨b4, 3, none⟩ (.pointer p5)) b4 92 (nodeC ePair m (some ⟨b2, 0, none⟩) p5) := (HBC1.out.set (j := 2)).set (j := 3)
              have hm := MR.mk hbcX HB4L.out HB4F5.out HLF5.out ((HL1.out.set (q := ⟨b4, 2, none⟩) HB4L.out).set (q := ⟨b4, 3, none⟩) HB4L.out) ((HE2.out.set (q := ⟨b4, 2, none⟩) HB4F5.out).set (q := ⟨b4, 3, none⟩) HB4F5.out)
              have hkX := (HK1.out.set (p := ⟨b4, 2, none⟩) (u := .pointer (some ⟨b2, 0, none⟩)) (.inl hb4in)).set (p := ⟨b4, 3, none⟩) (u := .pointer p5) (.inl hb4in)
              obtain ⟨p1, F1, q1, q2', q3, q4, q5, _⟩ := HA.out.putK hr hkX HRL.out HF.out hm HSUB.out
              refine bodyPost_ret (v := .tuple #[]) (by simp [results, Try.results34, go_sem]) rfl ⟨p1, F1, rfl, q1, by rw [HT.out, HREQ.out]; exact q2'.kp (Kp.refl _).drew, q3, q4, Kf.on q5 (Kp.refl _).drew⟩
end Go.Proofs.Ytnallpdmdhbidaa
