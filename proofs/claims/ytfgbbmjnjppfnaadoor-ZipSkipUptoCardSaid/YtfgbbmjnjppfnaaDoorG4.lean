/-
  zip.over, unzipped, zipped: what they answer. Conditions: the trees are written as MR says.
  zip.read: what it answers. Conditions: the list reads as l (RD); the table of math/bits holds what it is laid with (DTb).
  grow.place, grow.put, grow.told: what they answer. Conditions: the tree that the link holds is written as MR says.
  zip.cut, put: what they answer. Conditions: the tree is written as MR says; of put: the table of math/bits holds what it is laid with (DTb).
-/
import Derived.Test.YtfgbbmjnjppfnaaDoorG2
import Derived.BigQuiet
import Derived.Test.YtfgbbmjnjppfnaaDoorG3
import Derived.Test.YtfgbbmjnjppfnaaDoorG1

namespace Go.Proofs.YtfgbbmjnjppfnaaDoor
open Go.ChangeShapes Go.WideShapes Go.ChangeAt Go.RowKit
set_option linter.unusedVariables false
set_option linter.unusedSimpArgs false

/-- Does one stand above another one? -/
def ov (a c : IP) : Bool := decide (c.2 < a.2) || (a.2 == c.2 && decide (a.1 < c.1))
def unz : MT IP → Int → MT IP × MT IP
  | .nil, _ => (.nil, .nil)
  | .node a l r, k => if a.1 < k then (.node a l (unz r k).1, (unz r k).2) else ((unz l k).1, .node a (unz l k).2 r)
def zipM : MT IP → MT IP → MT IP
  | .nil, t => t
  | .node a l r, .nil => .node a l r
  | .node a l r, .node c x y => if ov a c then .node a l (zipM r (.node c x y)) else .node c (zipM (.node a l r) x) y
termination_by t u => t.size + u.size
decreasing_by all_goals simp only [MT.size]; omega
theorem zipM_nil (t : MT IP) : zipM t .nil = t := by cases t <;> simp [zipM]
theorem zipM_node (a c : IP) (l r x y : MT IP) : zipM (.node a l r) (.node c x y) = if ov a c then .node a l (zipM r (.node c x y)) else .node c (zipM (.node a l r) x) y := by rw [zipM]
set_option maxRecDepth 100000 in
set_option maxHeartbeats 2000000 in
theorem over_any (b1 b2 : Nat) (a c : IP) (w : World) (x0 : w.cell? ⟨b1, 0, none⟩ = some (.int .i64 a.1)) (x1 : w.cell? ⟨b1, 1, none⟩ = some (.int .i64 a.2)) (y0 : w.cell? ⟨b2, 0, none⟩ = some (.int .i64 c.1)) (y1 : w.cell? ⟨b2, 1, none⟩ = some (.int .i64 c.2)) :
    Calls Tryd.prog 57 #[.pointer (some ⟨b1, 0, none⟩), .pointer (some ⟨b2, 0, none⟩)] w (Ret (.bool (ov a c)) w) := by
  obtain ⟨a1, a2⟩ := a
  obtain ⟨c1, c2⟩ := c
  simp only at x0 x1 y0 y1
  rcases Int.lt_trichotomy c2 a2 with h | h | h
  · have H : Hid (ov (a1, a2) (c1, c2) = true) := hide (by simp [ov, h])
    have d1 : decide (c2 < a2) = true := by simp [h]
    go_enter Tryd.func57, Tryd.ntmps57
    go_wp2_with fail
    go_quiet (fail)
    go_wp2
    go_ret
    exact ⟨by rw [H.out]; rfl, below_drewN (Below.refl _ _) _⟩
  · subst h
    by_cases h2 : a1 < c1
    · have H : Hid (ov (a1, c2) (c1, c2) = true) := hide (by simp [ov, h2])
      have d1 : decide (c2 < c2) = false := by simp
      have d2 : (c2 == c2) = true := by simp
      have d3 : decide (a1 < c1) = true := by simp [h2]
      go_enter Tryd.func57, Tryd.ntmps57
      go_wp2_with fail
      go_quiet (fail)
      go_wp2
      go_ret
      exact ⟨by rw [H.out]; rfl, below_drewN (Below.refl _ _) _⟩
    · have H : Hid (ov (a1, c2) (c1, c2) = false) := hide (by simp [ov]; omega)
      have d1 : decide (c2 < c2) = false := by simp
      have d2 : (c2 == c2) = true := by simp
      have d3 : decide (a1 < c1) = false := by simp; omega
      go_enter Tryd.func57, Tryd.ntmps57
      go_wp2_with fail
      go_quiet (fail)
      go_wp2
      go_ret
      exact ⟨by rw [H.out]; rfl, below_drewN (Below.refl _ _) _⟩
  · have H : Hid (ov (a1, a2) (c1, c2) = false) := hide (by simp [ov]; omega)
    have d1 : decide (c2 < a2) = false := by simp; omega
    have d2 : (a2 == c2) = false := by simp; omega
    go_enter Tryd.func57, Tryd.ntmps57
    go_wp2_with fail
    go_quiet (fail)
    go_wp2
    go_ret
    exact ⟨by rw [H.out]; rfl, below_drewN (Below.refl _ _) _⟩

/-- A call that parts a tree. -/
def UzPost (nt : TypeId) (t : MT IP × MT IP) (F : List Nat) (w : World) (e : Ending) (w' : World) : Prop :=
  ∃ pa pb Fa Fb, e = .returned (.tuple #[.pointer pa, .pointer pb]) ∧ MR w' nt ePair t.1 pa Fa ∧ MR w' nt ePair t.2 pb Fb ∧ (∀ x ∈ Fa, x ∈ F) ∧ (∀ x ∈ Fb, x ∈ F) ∧ (∀ x ∈ Fa, x ∉ Fb) ∧ Kf (fun i => i ∈ F) w w'
set_option maxRecDepth 100000 in
set_option maxHeartbeats 2000000 in
theorem unzipped_any : ∀ (t : MT IP) (p : Option Addr) (F : List Nat) (k : Int) (w : World), MR w 113 ePair t p F → Calls Tryd.prog 35 #[.pointer p, .int .i64 k] w (UzPost 113 (unz t k) F w)
  | .nil, p, F, k, w, hm => by
    obtain ⟨rfl, rfl⟩ := hm
    go_enter Tryd.func35, Tryd.ntmps35
    go_wp2
    exact bodyPost_ret (v := .tuple #[.pointer none, .pointer none]) (by simp [results, Tryd.results35, go_sem]) rfl ⟨none, none, [], [], rfl, MR.nil, MR.nil, by simp, by simp, by simp, Kf.refl _ _⟩
  | .node a l r, p, F, k, w, hm => by
    obtain ⟨b, pl, pr, Fl, Fr, rfl, rfl, hb, g1, g2, g3, hl, hr⟩ := hm
    have x0 : w.cell? ⟨b, 0, none⟩ = some (.int .i64 a.1) := hb.cell 0
    have cl : w.cell? ⟨b, 2, none⟩ = some (.pointer pl) := hb.link true
    have cr : w.cell? ⟨b, 3, none⟩ = some (.pointer pr) := hb.link false
    have HB := hide hb
    have HL := hide hl
    have HR := hide hr
    have G1 := hide g1
    have G2 := hide g2
    have G3 := hide g3
    by_cases h1 : a.1 < k
    · have IH := hide (unzipped_any r pr Fr k w hr)
      have HF : Hid (unz (.node a l r) k = (.node a l (unz r k).1, (unz r k).2)) := hide (by rw [unz, if_pos h1])
      have d1 : decide (a.1 < k) = true := by simp [h1]
      clear hb hl hr g1 g2 g3 h1
      go_enter Tryd.func35, Tryd.ntmps35
      go_wp2_with fail
      with_reducible refine IH.out.mono ?_
      rintro e w1 ⟨pa, pb, Fa, Fb, rfl, ha, hb1, s1, s2, s3, hk⟩
      have HA := hide ha
      have HB1 := hide hb1
      have HK := hide hk
      have f0 : w1.frozen? ⟨b, 3, none⟩ = false := (HB.out.kf hk G2.out).frozen 3
      have c3 : w1.cell? ⟨b, 3, none⟩ = some (.pointer pr) := hk.cell (p := ⟨b, 3, none⟩) G2.out cr
      clear ha hb1 hk
      go_wp2
      have hba : b ∉ Fa := fun h => G2.out (s1 b h)
      have hbb : b ∉ Fb := fun h => G2.out (s2 b h)
      refine bodyPost_ret (v := .tuple #[.pointer (some ⟨b, 0, none⟩), .pointer pb]) (by simp [results, Tryd.results35, go_sem]) rfl ⟨_, pb, b :: (Fl ++ Fa), Fb, rfl, ?_, (by rw [HF.out]; exact HB1.out.set hbb), ?_, ?_, ?_, ?_⟩
      · rw [HF.out]
        refine MR.mk ?_ G1.out hba (fun x hx hx' => G3.out x hx (s1 x hx')) ((HL.out.kf HK.out (fun i hi h => G3.out i hi h)).set G1.out) (HA.out.set hba)
        exact (HB.out.kf HK.out G2.out).set (j := 3)
      · intro x hx
        simp only [List.mem_cons, List.mem_append] at hx ⊢
        rcases hx with h | h | h
        · exact .inl h
        · exact .inr (.inl h)
        · exact .inr (.inr (s1 x h))
      · intro x hx
        simp only [List.mem_cons, List.mem_append]
        exact .inr (.inr (s2 x hx))
      · intro x hx hx'
        simp only [List.mem_cons, List.mem_append] at hx
        rcases hx with h | h | h
        · subst h; exact hbb hx'
        · exact G3.out x h (s2 x hx')
        · exact s3 x h hx'
      · exact (HK.out.mono (G := fun i => i ∈ b :: (Fl ++ Fr)) (fun i _ h => by simp only [List.mem_cons, List.mem_append]; exact .inr (.inr h))).set (.inl (by simp))
    · have IH := hide (unzipped_any l pl Fl k w hl)
      have HF : Hid (unz (.node a l r) k = ((unz l k).1, .node a (unz l k).2 r)) := hide (by rw [unz, if_neg h1])
      have d1 : decide (a.1 < k) = false := by simp; omega
      clear hb hl hr g1 g2 g3 h1
      go_enter Tryd.func35, Tryd.ntmps35
      go_wp2_with fail
      with_reducible refine IH.out.mono ?_
      rintro e w1 ⟨pa, pb, Fa, Fb, rfl, ha, hb1, s1, s2, s3, hk⟩
      have HA := hide ha
      have HB1 := hide hb1
      have HK := hide hk
      have f0 : w1.frozen? ⟨b, 2, none⟩ = false := (HB.out.kf hk G1.out).frozen 2
      have c3 : w1.cell? ⟨b, 2, none⟩ = some (.pointer pl) := hk.cell (p := ⟨b, 2, none⟩) G1.out cl
      clear ha hb1 hk
      go_wp2
      have hba : b ∉ Fa := fun h => G1.out (s1 b h)
      have hbb : b ∉ Fb := fun h => G1.out (s2 b h)
      refine bodyPost_ret (v := .tuple #[.pointer pa, .pointer (some ⟨b, 0, none⟩)]) (by simp [results, Tryd.results35, go_sem]) rfl ⟨pa, _, Fa, b :: (Fb ++ Fr), rfl, (by rw [HF.out]; exact HA.out.set hba), ?_, ?_, ?_, ?_, ?_⟩
      · rw [HF.out]
        refine MR.mk ?_ hbb G2.out (fun x hx hx' => G3.out x (s2 x hx) hx') (HB1.out.set hbb) ((HR.out.kf HK.out (fun i hi h => G3.out i h hi)).set G2.out)
        exact (HB.out.kf HK.out G1.out).set (j := 2)
      · intro x hx
        simp only [List.mem_cons, List.mem_append]
        exact .inr (.inl (s1 x hx))
      · intro x hx
        simp only [List.mem_cons, List.mem_append] at hx ⊢
        rcases hx with h | h | h
        · exact .inl h
        · exact .inr (.inl (s2 x h))
        · exact .inr (.inr h)
      · intro x hx hx'
        simp only [List.mem_cons, List.mem_append] at hx'
        rcases hx' with h | h | h
        · subst h; exact hba hx
        · exact s3 x hx h
        · exact G3.out x (s1 x hx) h
      · exact (HK.out.mono (G := fun i => i ∈ b :: (Fl ++ Fr)) (fun i _ h => by simp only [List.mem_cons, List.mem_append]; exact .inr (.inl h))).set (.inl (by simp))

/-- A call that answers a tree of blocks that were there. -/
def ZpPost (nt : TypeId) (t : MT IP) (F : Nat → Prop) (w : World) (e : Ending) (w' : World) : Prop :=
  ∃ p F', e = .returned (.pointer p) ∧ MR w' nt ePair t p F' ∧ (∀ x ∈ F', F x) ∧ Kf F w w'
set_option maxRecDepth 100000 in
set_option maxHeartbeats 4000000 in
theorem zipped_any : ∀ (n : Nat) (t u : MT IP) (p q : Option Addr) (F G : List Nat) (w : World), t.size + u.size ≤ n → MR w 113 ePair t p F → MR w 113 ePair u q G → (∀ x ∈ F, x ∉ G) →
    Calls Tryd.prog 37 #[.pointer p, .pointer q] w (ZpPost 113 (zipM t u) (fun i => i ∈ F ∨ i ∈ G) w)
  | n, .nil, u, p, q, F, G, w, hn, hm, hu, hd => by
    obtain ⟨rfl, rfl⟩ := hm
    have HU := hide hu
    clear hu
    go_enter Tryd.func37, Tryd.ntmps37
    go_wp2
    exact bodyPost_ret (v := .pointer q) (by simp [results, Tryd.results37, go_sem]) rfl ⟨q, G, rfl, by rw [zipM]; exact HU.out, fun x hx => .inr hx, Kf.refl _ _⟩
  | n, .node a l r, .nil, p, q, F, G, w, hn, hm, hu, hd => by
    obtain ⟨rfl, rfl⟩ := hu
    have HM := hide hm
    obtain ⟨b, pl, pr, Fl, Fr, rfl, _⟩ := id hm
    clear hm
    go_enter Tryd.func37, Tryd.ntmps37
    go_wp2
    exact bodyPost_ret (v := .pointer (some ⟨b, 0, none⟩)) (by simp [results, Tryd.results37, go_sem]) rfl ⟨_, F, rfl, by rw [zipM_nil]; exact HM.out, fun x hx => .inl hx, Kf.refl _ _⟩
  | 0, .node a l r, .node c x y, p, q, F, G, w, hn, hm, hu, hd => by simp [MT.size] at hn
  | n + 1, .node a l r, .node c x y, p, q, F, G, w, hn, hm, hu, hd => by
    have HM := hide hm
    have HU := hide hu
    obtain ⟨b, pl, pr, Fl, Fr, rfl, rfl, hb, g1, g2, g3, hl, hr⟩ := hm
    obtain ⟨b2, px, py, Fx, Fy, rfl, rfl, hb2, k1, k2, k3, hx, hy⟩ := hu
    simp only [MT.size] at hn
    have x0 : w.cell? ⟨b, 0, none⟩ = some (.int .i64 a.1) := hb.cell 0
    have x1 : w.cell? ⟨b, 1, none⟩ = some (.int .i64 a.2) := hb.cell 1
    have y0 : w.cell? ⟨b2, 0, none⟩ = some (.int .i64 c.1) := hb2.cell 0
    have y1 : w.cell? ⟨b2, 1, none⟩ = some (.int .i64 c.2) := hb2.cell 1
    have HOV := hide (over_any b b2 a c w x0 x1 y0 y1)
    have cr : w.cell? ⟨b, 3, none⟩ = some (.pointer pr) := hb.link false
    have cx : w.cell? ⟨b2, 2, none⟩ = some (.pointer px) := hb2.link true
    have HB := hide hb
    have HB2 := hide hb2
    have HL := hide hl
    have HY := hide hy
    have hbG : b ∉ b2 :: (Fx ++ Fy) := hd b (by simp)
    have hb2F : b2 ∉ b :: (Fl ++ Fr) := fun h => hd b2 h (by simp)
    have hz := zipM_node a c l r x y
    cases hov : ov a c with
    | true =>
      rw [hov, if_pos rfl] at hz
      have HZ := hide hz
      rw [hov] at HOV
      have IH := hide (fun w1 h1 h2 => zipped_any n r (.node c x y) pr (some ⟨b2, 0, none⟩) Fr (b2 :: (Fx ++ Fy)) w1 (by simp only [MT.size]; omega) h1 h2 (fun i hi => hd i (by simp [hi])))
      have HR := hide hr
      have G1 := hide g1
      have G2 := hide g2
      have G3 := hide g3
      have HD := hide hd
      have HBG := hide hbG
      clear hb hb2 hl hr hx hy g1 g2 g3 k1 k2 k3 hd hz hov x0 x1 y0 y1 hbG hb2F cx
      go_enter Tryd.func37, Tryd.ntmps37
      go_wp2_with fail
      with_reducible refine HOV.out.mono ?_
      rintro e w1 ⟨rfl, hb1⟩
      have kk1 : Kp w w1 := Kp.of hb1
      have cr1 := kk1.cell cr
      clear hb1
      go_wp2_with fail
      with_reducible refine (IH.out _ (HR.out.kp kk1) (HU.out.kp kk1)).mono ?_
      rintro e w2 ⟨p2, F2, rfl, hm2, hF2, hk2⟩
      have hn2 : ¬ (b ∈ Fr ∨ b ∈ b2 :: (Fx ++ Fy)) := fun h => h.elim G2.out HBG.out
      have hb2' := (HB.out.kp kk1).kf hk2 hn2
      have HBB := hide hb2'
      have f0 : w2.frozen? ⟨b, 3, none⟩ = false := hb2'.frozen 3
      have c3 : w2.cell? ⟨b, 3, none⟩ = some (.pointer pr) := hb2'.link false
      have HM2 := hide hm2
      have HK2 := hide hk2
      have hbF2 : b ∉ F2 := fun h => hn2 (hF2 b h)
      have HHF := hide hF2
      have HBF := hide hbF2
      clear hb2' hm2 hk2 hbF2 hF2 hn2
      go_wp2
      refine bodyPost_ret (v := .pointer (some ⟨b, 0, none⟩)) (by simp [results, Tryd.results37, go_sem]) rfl ⟨_, b :: (Fl ++ F2), rfl, ?_, ?_, ?_⟩
      · rw [HZ.out]
        refine MR.mk ?_ G1.out HBF.out (fun i hi hi' => ?_) (((HL.out.kp kk1).kf HK2.out (fun i hi h => ?_)).set G1.out) (HM2.out.set HBF.out)
        · exact HBB.out.set (j := 3)
        · rcases HHF.out i hi' with h | h
          · exact G3.out i hi h
          · exact HD.out i (by simp [hi]) h
        · rcases h with h | h
          · exact G3.out i hi h
          · exact HD.out i (by simp [hi]) h
      · intro i hi
        simp only [List.mem_cons, List.mem_append] at hi ⊢
        rcases hi with h | h | h
        · exact .inl (.inl h)
        · exact .inl (.inr (.inl h))
        · rcases HHF.out i h with h | h
          · exact .inl (.inr (.inr h))
          · simp only [List.mem_cons, List.mem_append] at h; exact .inr h
      · have h9 : Kf (fun i => i ∈ b :: (Fl ++ Fr) ∨ i ∈ b2 :: (Fx ++ Fy)) w w2 := (Kf.of kk1).trans HK2.out (fun i _ h => by
          rcases h with h | h
          · exact .inl (by simp [h])
          · exact .inr h)
        exact h9.set (.inl (.inl (by simp)))
    | false =>
      rw [hov, if_neg (by simp)] at hz
      have HZ := hide hz
      rw [hov] at HOV
      have IH := hide (fun w1 h1 h2 => zipped_any n (.node a l r) x (some ⟨b, 0, none⟩) px (b :: (Fl ++ Fr)) Fx w1 (by simp only [MT.size]; omega) h1 h2 (fun i hi hi' => hd i hi (by simp [hi'])))
      have HX := hide hx
      have G1 := hide k1
      have G2 := hide k2
      have G3 := hide k3
      have HD := hide hd
      have HBG := hide hb2F
      clear hb hb2 hl hr hx hy g1 g2 g3 k1 k2 k3 hd hz hov x0 x1 y0 y1 hbG hb2F cr
      go_enter Tryd.func37, Tryd.ntmps37
      go_wp2_with fail
      with_reducible refine HOV.out.mono ?_
      rintro e w1 ⟨rfl, hb1⟩
      have kk1 : Kp w w1 := Kp.of hb1
      have cx1 := kk1.cell cx
      clear hb1
      go_wp2_with fail
      with_reducible refine (IH.out _ (HM.out.kp kk1) (HX.out.kp kk1)).mono ?_
      rintro e w2 ⟨p2, F2, rfl, hm2, hF2, hk2⟩
      have hn2 : ¬ (b2 ∈ b :: (Fl ++ Fr) ∨ b2 ∈ Fx) := fun h => h.elim HBG.out G1.out
      have hb2' := (HB2.out.kp kk1).kf hk2 hn2
      have HBB := hide hb2'
      have f0 : w2.frozen? ⟨b2, 2, none⟩ = false := hb2'.frozen 2
      have c3 : w2.cell? ⟨b2, 2, none⟩ = some (.pointer px) := hb2'.link true
      have HM2 := hide hm2
      have HK2 := hide hk2
      have hbF2 : b2 ∉ F2 := fun h => hn2 (hF2 b2 h)
      have HHF := hide hF2
      have HBF := hide hbF2
      clear hb2' hm2 hk2 hbF2 hF2 hn2
      go_wp2
      refine bodyPost_ret (v := .pointer (some ⟨b2, 0, none⟩)) (by simp [results, Tryd.results37, go_sem]) rfl ⟨_, b2 :: (F2 ++ Fy), rfl, ?_, ?_, ?_⟩
      · rw [HZ.out]
        refine MR.mk ?_ HBF.out G2.out (fun i hi hi' => ?_) (HM2.out.set HBF.out) (((HY.out.kp kk1).kf HK2.out (fun i hi h => ?_)).set G2.out)
        · exact HBB.out.set (j := 2)
        · rcases HHF.out i hi with h | h
          · exact HD.out i h (by simp [hi'])
          · exact G3.out i h hi'
        · rcases h with h | h
          · exact HD.out i h (by simp [hi])
          · exact G3.out i h hi
      · intro i hi
        simp only [List.mem_cons, List.mem_append] at hi ⊢
        rcases hi with h | h | h
        · exact .inr (.inl h)
        · rcases HHF.out i h with h | h
          · simp only [List.mem_cons, List.mem_append] at h; exact .inl h
          · exact .inr (.inr (.inl h))
        · exact .inr (.inr (.inr h))
      · have h9 : Kf (fun i => i ∈ b :: (Fl ++ Fr) ∨ i ∈ b2 :: (Fx ++ Fy)) w w2 := (Kf.of kk1).trans HK2.out (fun i _ h => by
          rcases h with h | h
          · exact .inl h
          · exact .inr (by simp [h]))
        exact h9.set (.inl (.inr (by simp)))
  termination_by n => n
end Go.Proofs.YtfgbbmjnjppfnaaDoor
namespace Go.Proofs.YtfgbbmjnjppfnaaDoor
open Go.ChangeShapes Go.WideShapes Go.ChangeAt Go.RowKit
set_option linter.unusedVariables false
set_option linter.unusedSimpArgs false

/-- A key as it lies in a node: with its height. -/
def eZ : Enc Int := ⟨2, fun k => [.int .i64 k, .int .i64 (hgtF k)], fun _ => rfl, fun _ u h => by simp at h; rcases h with rfl | rfl <;> rfl⟩
def zk (k : Int) : IP := (k, hgtF k)
def mapZ : MT Int → MT IP
  | .nil => .nil
  | .node a l r => .node (zk a) (mapZ l) (mapZ r)
theorem MR.mapZ {w : World} {nt : TypeId} : ∀ {t : MT Int} {p : Option Addr} {F : List Nat}, MR w nt eZ t p F → MR w nt ePair (mapZ t) p F
  | .nil, _, _, h => h
  | .node a l r, p, F, ⟨b, pl, pr, Fl, Fr, h1, h2, h3, h4, h5, h6, h7, h8⟩ => ⟨b, pl, pr, Fl, Fr, h1, h2, h3, h4, h5, h6, h7.mapZ, h8.mapZ⟩
theorem mapZ_size : ∀ t : MT Int, (mapZ t).size = t.size
  | .nil => rfl
  | .node a l r => by simp [mapZ, MT.size, mapZ_size l, mapZ_size r]
theorem mapZ_spots : ∀ (t : MT Int) (d : Int), (mapZ t).spotsBy Prod.fst d = t.spotsBy id d
  | .nil, _ => rfl
  | .node a l r, d => by simp [mapZ, MT.spotsBy, mapZ_spots l, mapZ_spots r, zk]
/-- Each stands below one that is over it. -/
def okB (l : List IP) (up : List Int) (n : Nat) : Bool := (List.range n).all fun j => decide (gI up j < 0) || ov (zk (gk l (gI up j).toNat)) (zk (gk l j))
theorem okB_succ (l : List IP) (up : List Int) (n : Nat) : okB l up (n + 1) = (okB l up n && (decide (gI up n < 0) || ov (zk (gk l (gI up n).toNat)) (zk (gk l n)))) := by
  rw [okB, List.range_succ, List.all_append]; simp [okB]
theorem okB_mono {l : List IP} {up : List Int} {n m : Nat} (h : okB l up n = false) (hm : n ≤ m) : okB l up m = false := by
  induction m with
  | zero => obtain rfl : n = 0 := by omega
            exact h
  | succ m ih =>
    rcases Nat.lt_or_ge n (m + 1) with h1 | h1
    · rw [okB_succ, ih (by omega)]; rfl
    · obtain rfl : n = m + 1 := by omega
      exact h
def readZ (l : List IP) : MT Int × Int := if (parOf l).2 ≠ 0 then (.nil, (parOf l).2) else if okB l (parOf l).1 l.length then (match ptR l 0 l.length 0 with | some t => (mtP (l.map Prod.fst) t, 0) | none => (.nil, 0)) else (.nil, 3)
def ZRPost (nt : TypeId) (l : List IP) (w : World) (e : Ending) (w' : World) : Prop :=
  ∃ p F, e = .returned (.tuple #[.pointer p, .int .i64 (readZ l).2]) ∧ MR w' nt eZ (readZ l).1 p F ∧ (∀ x ∈ F, w.heap.size ≤ x) ∧ Kp w w'
theorem DTb.set {w : World} (h : DTb w) {p : Addr} (hp : 0 < p.block) (u : Value) : DTb (w.setCell p u) := fun i hi => by
  rw [World.cell?_setCell_other _ _ _ _ (fun e => by rw [e] at hp; simp at hp)]; exact h i hi
theorem DTb.alloc {w : World} (h : DTb w) (o : Obj) : DTb (w.alloc o) := h.kp (Kp.refl w).alloc
theorem DTb.drew {w : World} (h : DTb w) : DTb w.drew := h
theorem DTb.pos {w : World} (h : DTb w) : 0 < w.heap.size := World.block_lt_of_cell? _ _ (h 0 (by decide))
def Z2Rel (l : List IP) (up : List Int) (bl : List Nat) (w : World) (g : Nat) (pt nt : TypeId) (rv iv : Value) (wr : World) : Prop :=
  ∃ k : Nat, k ≤ l.length ∧ iv = .int .i64 k ∧ rv = .pointer (adB bl (rtF up k)) ∧ AR wr g pt ePtr (arB bl l.length) ∧ Bks wr nt eZ (l.map Prod.fst) bl (lpF up k) (rpF up k) ∧ okB l up k = true ∧ Kp w wr
theorem getD_fstZ (l : List IP) (p : Nat) : (l.map Prod.fst).getD p 0 = gk l p := by
  unfold gk
  rw [List.getD_eq_getElem?_getD, List.getD_eq_getElem?_getD, List.getElem?_map]
  cases l[p]? <;> rfl
theorem info_zptr : (Tryd.prog.info? 73).map (fun i => (i.zero, i.size, i.bytes)) = some (some (.pointer none), 1, 8) := by kernel_rfl
theorem row_zptr : Row Tryd.prog 111 73 ePtr 8 := row_of info_zptr Tryd.underlying111 rfl rfl (by decide)
set_option maxRecDepth 100000 in
set_option maxHeartbeats 4000000 in
theorem zipRead_any (l : List IP) (v : Value) (w : World) (hr : RD w ePair v l) (hdb : DTb w) : Calls Tryd.prog 34 #[v] w (ZRPost 113 l w) := by
  obtain ⟨A, c, rfl, hc, hm⟩ := hr.shape
  have HR := hide hr
  have HPA := hide (fun W v h => parents_of l v W h)
  clear hr
  by_cases h0 : (parOf l).2 = 0
  · obtain ⟨hlen, hmr, t, hpt, hpo⟩ := parOf_len l h0
    obtain ⟨hta, hts, _⟩ := ptR_to l 0 l.length 0 t (by omega) hpt
    have hvt : Hid (readZ l = if okB l (t.pars (-1)) l.length then (mtP (l.map Prod.fst) t, 0) else (.nil, 3)) := hide (by rw [readZ, if_neg (by simp [h0]), hpt, hpo])
    obtain ⟨up, hup⟩ : ∃ up, up = t.pars (-1) := ⟨_, rfl⟩
    have hul : up.length = l.length := by rw [hup, PT.pars_len]; omega
    have hvv : Hid (∀ j, j < l.length → (gI up j = -1) ∨ (0 ≤ gI up j ∧ gI up j < l.length)) := hide fun j hj => by
      obtain ⟨x, h1, h2⟩ := PT.pars_in t 0 (-1) hta j (by omega)
      have : gI up j = x := by rw [gI, hup, List.getD_eq_getElem?_getD, h1]; rfl
      rw [this]
      rcases h2 with h2 | h2
      · exact .inl h2.2
      · have h3 := h2.2; push_cast at h3; exact .inr (by omega)
    have hE : Hid (parOf l = (up, 0)) := hide (by rw [hpo, hup])
    have hUP := hide hup
    have hTA := hide hta
    rw [hE.out] at HPA
    rw [← hup] at hvt
    have HDB := hide hdb
    clear hdb
    obtain ⟨C, hC, hmk⟩ := run_mk row_zptr none (zero_ptr' info_zptr) l.length (by omega) (by simp [maxLen]; omega)
    have HUL := hide hul
    clear hpt hpo hup hta hmr hul
    go_enter Tryd.func34, Tryd.ntmps34
    go_wp2_with fail
    with_reducible refine (HPA.out _ _ HR.out).mono ?_
    rintro e w1 ⟨v1, rfl, hr1, hb1⟩
    obtain ⟨A1, c1, rfl, hc1, hm1⟩ := hr1.shape
    simp only at hc1 hr1 ⊢
    have k1 : Kp w w1 := hb1
    have HU := hide hr1
    have HK1 := hide k1
    clear hb1 hr1 k1
    go_wp2
    go_loopw [25] (V1Rel l w1 w1.heap.size 73 113 eZ) (fun i _ => l.length - (intOf i).toNat)
    case atStart => exact ⟨0, [], by omega, rfl, rfl, by have h := AR.made (W := w1) (e := 73) hC; simpa [arB] using h, (fun k hk => by simp at hk), (fun k hk => by simp at hk), (fun i j hi => by simp at hi), (Kp.refl w1).alloc⟩
    case round =>
      obtain ⟨k, bl, hk, rfl, hbl, har, hbk, hgt, hinj, hkp⟩ := hrel
      by_cases hlt : k < l.length
      · obtain ⟨b, o, rfl, _, x0, x1⟩ := (HR.out.kp (HK1.out.trans hkp)).pair hlt
        have g0 : wr.cell? ⟨w1.heap.size, k, none⟩ = some (.pointer none) := by
          have h := har.ptr (k := k) (by rw [arB_len _ _ (by omega)]; exact hlt)
          rw [h]
          simp [arB, List.getElem_append_right, hbl]
        have f0 : wr.frozen? ⟨w1.heap.size, k, none⟩ = false := har.frozen k
        have hgl := har.lt
        have g2 : ∀ o1 o2, ((wr.alloc o1).alloc o2).cell? ⟨w1.heap.size, k, none⟩ = some (.pointer none) := fun o1 o2 => ((Kp.refl wr).alloc.alloc).cell g0
        have f2 : ∀ o1 o2, ((wr.alloc o1).alloc o2).frozen? ⟨w1.heap.size, k, none⟩ = false := fun o1 o2 => (((Kp.refl wr).alloc.alloc).frozen hgl).trans f0
        have HAR := hide har
        have HBK := hide hbk
        have HBL := hide hbl
        have HGT := hide hgt
        have HIN := hide hinj
        have HGL := hide hgl
        obtain ⟨y, hy⟩ : ∃ y, y = l[k].1 := ⟨_, rfl⟩
        rw [← hy] at x0
        have HHG := hide (fun W h => height_any y W h)
        obtain ⟨ht, hht⟩ : ∃ ht, ht = hgtF y := ⟨_, rfl⟩
        rw [← hht] at HHG
        have HHT := hide hht
        clear hht
        have HY := hide hy
        have hpos : 0 < w1.heap.size := Nat.lt_of_lt_of_le HDB.out.pos HK1.out.size
        have hne : ¬ wr.heap.size = w1.heap.size := by omega
        have hne2 : ¬ w1.heap.size = wr.heap.size := by omega
        have hdb0 : DTb wr := HDB.out.kp (HK1.out.trans hkp)
        have KC2 : Hid (∀ u o, (((wr.setCell ⟨w1.heap.size, k, none⟩ u).alloc (.cells #[.int .i64 y, .int .i64 l[k].2] 51)).alloc o).drew.cell? ⟨wr.heap.size, 0, none⟩ = some (.int .i64 y)) := hide (fun u o => ((Kp.refl _).alloc.drew).cell (by simp [go_sem]))
        have hdbs : ∀ u, DTb (wr.setCell ⟨w1.heap.size, k, none⟩ u) := fun u => hdb0.set hpos u
        have KC3 : Hid (∀ o, ((wr.alloc (.cells #[.int .i64 y, .int .i64 l[k].2] 51)).alloc o).drew.cell? ⟨wr.heap.size, 0, none⟩ = some (.int .i64 y)) := hide (fun o => ((Kp.refl _).alloc.drew).cell (by simp [go_sem]))
        have x0d : Hid ((wr.alloc (.cells #[.int .i64 y, .int .i64 l[k].2] 51)).drew.cell? ⟨wr.heap.size, 0, none⟩ = some (.int .i64 y)) := hide (((Kp.refl _).drew).cell (by simp [go_sem]))
        have hdb1 : DTb (wr.alloc (.cells #[.int .i64 y, .int .i64 l[k].2] 51)) := (HDB.out.kp (HK1.out.trans hkp)).alloc _
        have HKP := hide hkp
        clear har hbk hgt hinj hbl hy
        go_wp2_with fail
        go_region_held3 (fun w' => w'.cell? ⟨wr.heap.size, 0, none⟩ = some (.int .i64 y) ∧ DTb w')
          ((refine ⟨?_, ?_⟩; (focus (first | exact x0d.out | exact KC2.out _ _ | exact KC3.out _ | go_keep)); (focus ((repeat (first | (with_reducible assumption) | exact hdbs _ | (with_reducible apply DTb.drew) | (with_reducible apply DTb.alloc))); done))))
          ((go_at_call_of 28 (Value.int .i64 y); (with_reducible refine (HHG.out _ ?_).mono ?_); ((repeat (first | (with_reducible assumption) | (with_reducible apply DTb.drew) | (with_reducible apply DTb.alloc)))); rintro e w2 ⟨rfl, rfl⟩))
        all_goals
          go_wp2
          go_roundw
          case rel =>
            have hz : w1.heap.size < wr.heap.size := HGL.out
            refine ⟨k + 1, bl ++ [wr.heap.size + 1], by omega, by go_num, by simp [HBL.out], ?_, ?_, ?_, ?_, ?_⟩
            · have h := (HAR.out.setPtr (k := k) (mkA (wr.heap.size + 1)))
              have e := arB_set bl l.length (wr.heap.size + 1) (by rw [HBL.out]; exact hlt)
              rw [HBL.out] at e
              rw [e] at h
              exact h.alloc.alloc
            · refine Bks.kp (w := ((wr.setCell ⟨w1.heap.size, k, none⟩ (.pointer (some ⟨wr.heap.size + 1, 0, none⟩))).alloc (.cells #[.int .i64 y, .int .i64 l[k].2] 51)).alloc (.cells #[.int .i64 y, .int .i64 ht, .pointer none, .pointer none] 113)) ?_ (Kp.refl _).drew
              refine Bks.snoc (Bks.kp (w := wr.setCell ⟨w1.heap.size, k, none⟩ (.pointer (some ⟨wr.heap.size + 1, 0, none⟩))) (fun j hj => (HBK.out j hj).far (by have h := HGT.out j hj; simp only; omega)) (Kp.refl _).alloc.alloc) ?_
              have h := BC.new ((wr.setCell ⟨w1.heap.size, k, none⟩ (.pointer (some ⟨wr.heap.size + 1, 0, none⟩))).alloc (.cells #[.int .i64 y, .int .i64 l[k].2] 51)) 113 (nodeC eZ y none none)
              have e1 : ((wr.setCell ⟨w1.heap.size, k, none⟩ (.pointer (some ⟨wr.heap.size + 1, 0, none⟩))).alloc (.cells #[.int .i64 y, .int .i64 l[k].2] 51)).heap.size = wr.heap.size + 1 := by simp
              have e2 : (l.map Prod.fst).getD bl.length 0 = y := by rw [HBL.out, HY.out]; simp [List.getD_eq_getElem?_getD, hlt]
              rw [e1] at h
              rw [e2, HHT.out]
              exact h
            · intro j hj
              simp only [List.length_append, List.length_cons, List.length_nil] at hj
              rcases Nat.lt_or_ge j bl.length with h1 | h1
              · rw [getD_snoc_lt h1]; exact HGT.out j h1
              · obtain rfl : j = bl.length := by omega
                rw [getD_snoc_at]; omega
            · refine HIN.out.snoc fun j hj => ?_
              have h := (HBK.out j hj).lt
              omega
            · exact (Kp.set HKP.out (Nat.le_refl _) _).alloc.alloc.drew
          case measure => simp [intOf]; omega
      · have hkl : k = l.length := by omega
        obtain ⟨wq, rfl⟩ : ∃ x, x = wr := ⟨_, rfl⟩
        have hbn : bl.length = l.length := by omega
        have HAR := hide har
        have HBK := hide hbk
        have HBL := hide hbn
        have HGT := hide hgt
        have HIN := hide hinj
        have HKP := hide hkp
        have hgl := har.lt
        have HGL := hide hgl
        clear har hbk hgt hinj hbl hkl hbn
        go_wp2
        go_loopw [9, 43] (Z2Rel l up bl w1 w1.heap.size 73 113) (fun _ i _ => l.length - (intOf i).toNat)
        case atStart => exact ⟨0, by omega, rfl, rfl, HAR.out, HBK.out, rfl, HKP.out⟩
        case round =>
          obtain ⟨i, hi, rfl, rfl, har, hbk, hok, hkp2⟩ := hrel
          have HOK := hide hok
          clear hok
          by_cases hli : i < l.length
          · have hiu : i < up.length := by rw [HUL.out]; exact hli
            have hiuI : (i : Int) < (up.length : Int) := by omega
            obtain ⟨b, o, rfl, _, c0⟩ := (HU.out.kp hkp2).int hiu
            obtain ⟨y, hy⟩ : ∃ y, y = up[i] := ⟨_, rfl⟩
            rw [← hy] at c0
            have hgy : Hid (gI up i = y) := hide (by rw [hy, gI, List.getD_eq_getElem?_getD, List.getElem?_eq_getElem hiu]; rfl)
            have hyv := hvv.out i hli
            rw [hgy.out] at hyv
            have HLE := hide (arB_len bl l.length (by rw [HBL.out]; omega))
            have a0 : wr.cell? ⟨w1.heap.size, i, none⟩ = some (.pointer (some ⟨bl.getD i 0, 0, none⟩)) := by
              have h := har.ptr (k := i) (by rw [HLE.out]; exact hli)
              rw [h, arB_at bl l.length i (by rw [HBL.out]; exact hli)]; rfl
            have HAR2 := hide har
            have HBK2 := hide hbk
            clear har hbk hy
            by_cases hneg : y = -1
            · have HN : Hid (∀ k, lpF up (i + 1) k = lpF up i k ∧ rpF up (i + 1) k = rpF up i k) := hide fun k => ⟨by rw [lpF, if_neg (fun h => by have := h.1; rw [hgy.out] at this; omega)], by rw [rpF, if_neg (fun h => by have := h.1; rw [hgy.out] at this; omega)]⟩
              have HRT : Hid (rtF up (i + 1) = some i) := hide (by rw [rtF, if_pos (by rw [hgy.out]; omega)])
              subst hneg
              go_wp2
              go_roundw
              case rel =>
                refine ⟨i + 1, by omega, by go_num, by rw [HRT.out]; rfl, HAR2.out, ?_, (by rw [okB_succ, HOK.out, hgy.out]; rfl), hkp2⟩
                have e1 : lpF up (i + 1) = lpF up i := funext fun k => (HN.out k).1
                have e2 : rpF up (i + 1) = rpF up i := funext fun k => (HN.out k).2
                rw [e1, e2]; exact HBK2.out
              case measure => simp [intOf]; omega
            · have HRT : Hid (rtF up (i + 1) = rtF up i) := hide (by rw [rtF, if_neg (by rw [hgy.out]; omega)])
              obtain ⟨p, rfl⟩ : ∃ p : Nat, y = p := ⟨y.toNat, by omega⟩
              have hpl : p < l.length := by omega
              have a1 : wr.cell? ⟨w1.heap.size, p, none⟩ = some (.pointer (some ⟨bl.getD p 0, 0, none⟩)) := by
                have h := HAR2.out.ptr (k := p) (by rw [HLE.out]; exact hpl)
                rw [h, arB_at bl l.length p (by rw [HBL.out]; exact hpl)]; rfl
              have hbp := HBK2.out p (by rw [HBL.out]; exact hpl)
              have c1' : wr.cell? ⟨bl.getD p 0, 2, none⟩ = some (.pointer (adB bl (lpF up i p))) := hbp.link true
              have c2' : wr.cell? ⟨bl.getD p 0, 3, none⟩ = some (.pointer (adB bl (rpF up i p))) := hbp.link false
              have f1' := hbp.frozen 2
              have f2' := hbp.frozen 3
              have d1 : ((p : Int) == -1) = false := by simp <;> omega
              have hq : p < (arB bl l.length).length := by rw [HLE.out]; exact hpl
              obtain ⟨bp, hbpe⟩ : ∃ x, x = bl.getD p 0 := ⟨_, rfl⟩
              obtain ⟨bi, hbie⟩ : ∃ x, x = bl.getD i 0 := ⟨_, rfl⟩
              rw [← hbie] at a0
              rw [← hbpe] at a1 c1' c2' f1' f2'
              have HPG : Hid (w1.heap.size < bp) := hide (by rw [hbpe]; exact HGT.out p (by rw [HBL.out]; exact hpl))
              have n1 : ¬ w1.heap.size = bp := by have := HPG.out; omega
              have n2 : ¬ bp = w1.heap.size := by have := HPG.out; omega
              have HBI : Hid (adB bl (some i) = some ⟨bi, 0, none⟩) := hide (by rw [hbie]; rfl)
              have hbi2 := HBK2.out i (by rw [HBL.out]; exact hli)
              rw [← hbie] at hbi2
              have hbp2 := hbp
              rw [← hbpe] at hbp2
              have HKI : Hid ((l.map Prod.fst).getD i 0 = gk l i ∧ (l.map Prod.fst).getD p 0 = gk l p) := hide ⟨getD_fstZ l i, getD_fstZ l p⟩
              have HOV := hide (fun W (hk : Kp wr W) => over_any bp bi (zk (gk l p)) (zk (gk l i)) W (hk.cell (by rw [← HKI.out.2]; exact hbp2.cell 0)) (hk.cell (by rw [← HKI.out.2]; exact hbp2.cell 1)) (hk.cell (by rw [← HKI.out.1]; exact hbi2.cell 0)) (hk.cell (by rw [← HKI.out.1]; exact hbi2.cell 1)))
              have KW0 := Kp.refl wr
              have KS : Hid (∀ W', Kp wr W' → (W'.cell? ⟨w1.heap.size, p, none⟩ = some (.pointer (some ⟨bp, 0, none⟩)) ∧ W'.cell? ⟨w1.heap.size, i, none⟩ = some (.pointer (some ⟨bi, 0, none⟩)) ∧ Kp wr W')) := hide fun W' h => ⟨h.cell a1, h.cell a0, h⟩
              obtain ⟨ob, hob⟩ : ∃ ob, ob = ov (zk (gk l p)) (zk (gk l i)) := ⟨_, rfl⟩
              rw [← hob] at HOV
              have HOB : Hid (okB l up (i + 1) = ob) := hide (by rw [okB_succ, HOK.out, hgy.out, hob, show decide ((p : Int) < 0) = false by simp]; simp)
              clear hbi2 hbp2 hob
              cases ob with
              | false =>
                have HNO : Hid (readZ l = (.nil, 3)) := hide (by rw [hvt.out, okB_mono HOB.out (by omega)]; rfl)
                clear hbp hbpe hbie
                go_wp2_with fail
                go_region_held3 (fun w' => w'.cell? ⟨w1.heap.size, p, none⟩ = some (.pointer (some ⟨bp, 0, none⟩)) ∧ w'.cell? ⟨w1.heap.size, i, none⟩ = some (.pointer (some ⟨bi, 0, none⟩)) ∧ Kp wr w')
                  ((go_split_ands; refine KS.out _ ?_; (focus ((repeat (first | (with_reducible assumption) | (with_reducible exact Kp.refl _) | (with_reducible apply Kp.drew) | (with_reducible apply Kp.drewN) | ((with_reducible apply Kp.setR); (focus (first | (with_reducible assumption) | (simp; done) | (simp; omega)))) | (with_reducible apply Kp.alloc) | ((with_reducible apply Kp.call); (with_reducible assumption)) | ((with_reducible apply Kp.app); (with_reducible assumption)))); done))))
                  ((go_at_call_of 57 (Value.pointer (some ⟨bp, 0, none⟩)); (with_reducible refine (HOV.out _ ?_).mono ?_); (go_split_ands; (focus ((repeat (first | (with_reducible assumption) | (with_reducible exact Kp.refl _) | (with_reducible apply Kp.drew) | (with_reducible apply Kp.drewN) | ((with_reducible apply Kp.setR); (focus (first | (with_reducible assumption) | (simp; done) | (simp; omega)))) | (with_reducible apply Kp.alloc) | ((with_reducible apply Kp.call); (with_reducible assumption)) | ((with_reducible apply Kp.app); (with_reducible assumption)))); done))); rintro e w5 ⟨rfl, hb5⟩))
                all_goals
                  go_wp2
                  exact bodyPost_ret (v := .tuple #[.pointer none, .int .i64 3]) (by simp [results, Tryd.results34, go_sem]) rfl ⟨none, [], by rw [HNO.out], by rw [HNO.out]; exact MR.nil, by simp, HK1.out.trans (hkp2.trans (by (focus ((repeat (first | (with_reducible assumption) | (with_reducible exact Kp.refl _) | (with_reducible apply Kp.drew) | (with_reducible apply Kp.drewN) | ((with_reducible apply Kp.setR); (focus (first | (with_reducible assumption) | (simp; done) | (simp; omega)))) | (with_reducible apply Kp.alloc) | ((with_reducible apply Kp.call); (with_reducible assumption)) | ((with_reducible apply Kp.app); (with_reducible assumption)))); done))))⟩
              | true =>
                have HBPE := hide hbpe
                clear hbp hbpe hbie
                go_wp2_with fail
                go_region_held3 (fun w' => w'.cell? ⟨w1.heap.size, p, none⟩ = some (.pointer (some ⟨bp, 0, none⟩)) ∧ w'.cell? ⟨w1.heap.size, i, none⟩ = some (.pointer (some ⟨bi, 0, none⟩)) ∧ Kp wr w')
                  ((go_split_ands; refine KS.out _ ?_; (focus ((repeat (first | (with_reducible assumption) | (with_reducible exact Kp.refl _) | (with_reducible apply Kp.drew) | (with_reducible apply Kp.drewN) | ((with_reducible apply Kp.setR); (focus (first | (with_reducible assumption) | (simp; done) | (simp; omega)))) | (with_reducible apply Kp.alloc) | ((with_reducible apply Kp.call); (with_reducible assumption)) | ((with_reducible apply Kp.app); (with_reducible assumption)))); done))))
                  ((go_at_call_of 57 (Value.pointer (some ⟨bp, 0, none⟩)); (with_reducible refine (HOV.out _ ?_).mono ?_); (go_split_ands; (focus ((repeat (first | (with_reducible assumption) | (with_reducible exact Kp.refl _) | (with_reducible apply Kp.drew) | (with_reducible apply Kp.drewN) | ((with_reducible apply Kp.setR); (focus (first | (with_reducible assumption) | (simp; done) | (simp; omega)))) | (with_reducible apply Kp.alloc) | ((with_reducible apply Kp.call); (with_reducible assumption)) | ((with_reducible apply Kp.app); (with_reducible assumption)))); done))); rintro e w5 ⟨rfl, hb5⟩))
                all_goals
                  have k5 : Kp wr w5 := by (focus ((repeat (first | (with_reducible assumption) | (with_reducible exact Kp.refl _) | (with_reducible apply Kp.drew) | (with_reducible apply Kp.drewN) | ((with_reducible apply Kp.setR); (focus (first | (with_reducible assumption) | (simp; done) | (simp; omega)))) | (with_reducible apply Kp.alloc) | ((with_reducible apply Kp.call); (with_reducible assumption)) | ((with_reducible apply Kp.app); (with_reducible assumption)))); done))
                  have HAR3 := hide (HAR2.out.kp k5)
                  have HBK3 := hide (HBK2.out.kp k5)
                  have hkp3 := hkp2.trans k5
                  have q0 := k5.cell a0
                  have q1 := k5.cell a1
                  have q2 := k5.cell c1'
                  have q3 := k5.cell c2'
                  have hbpl : bp < wr.heap.size := World.block_lt_of_cell? _ _ c1'
                  have q4 := (k5.frozen (p := ⟨bp, 2, none⟩) hbpl).trans f1'
                  have q5 := (k5.frozen (p := ⟨bp, 3, none⟩) hbpl).trans f2'
                  clear a0 a1 c1' c2' f1' f2' hb5 k5 KW0 hbpl
                  by_cases hip : i < p
                  · have d2 : decide ((i : Int) < (p : Int)) = true := by simp; omega
                    have HB2 := hide (HBK3.out.set HIN.out p (by rw [HBL.out]; exact hpl) (pl' := lpF up (i + 1)) (pr' := rpF up (i + 1)) true (some i) (fun k _ hne => ⟨by rw [lpF, if_neg (fun h => hne (by have := h.1; rw [hgy.out] at this; omega))], by rw [rpF, if_neg (fun h => hne (by have := h.1; rw [hgy.out] at this; omega))]⟩)
                      (by simp only [if_true]; rw [lpF, if_pos ⟨hgy.out, hip⟩]) (by simp only [if_true]; rw [rpF, if_neg (fun h => by have := h.2; omega)]))
                    rw [HBI.out, ← HBPE.out] at HB2
                    go_wp2_with fail
                    go_region_held3 (fun w' => w'.cell? ⟨w1.heap.size, p, none⟩ = some (.pointer (some ⟨bp, 0, none⟩)) ∧ w'.cell? ⟨w1.heap.size, i, none⟩ = some (.pointer (some ⟨bi, 0, none⟩)))
                      (first | go_keep | fail) (fail)
                    go_wp2
                    go_roundw
                    case rel => exact ⟨i + 1, by omega, by go_num, by rw [HRT.out], (HAR3.out.setCell (by have := HPG.out; simp only; omega)).kp (Kp.refl _).drew, HB2.out.kp (Kp.refl _).drew, HOB.out, (Kp.set hkp3 (Nat.le_of_lt HPG.out) _).drew⟩
                    case measure => simp [intOf]; omega
                  · have d2 : decide ((i : Int) < (p : Int)) = false := by simp; omega
                    have HB2 := hide (HBK3.out.set HIN.out p (by rw [HBL.out]; exact hpl) (pl' := lpF up (i + 1)) (pr' := rpF up (i + 1)) false (some i) (fun k _ hne => ⟨by rw [lpF, if_neg (fun h => hne (by have := h.1; rw [hgy.out] at this; omega))], by rw [rpF, if_neg (fun h => hne (by have := h.1; rw [hgy.out] at this; omega))]⟩)
                      (by simp only [Bool.false_eq_true, if_false]; rw [rpF, if_pos ⟨hgy.out, by omega⟩]) (by simp only [Bool.false_eq_true, if_false]; rw [lpF, if_neg (fun h => hip h.2)]))
                    rw [HBI.out, ← HBPE.out] at HB2
                    go_wp2_with fail
                    go_region_held3 (fun w' => w'.cell? ⟨w1.heap.size, p, none⟩ = some (.pointer (some ⟨bp, 0, none⟩)) ∧ w'.cell? ⟨w1.heap.size, i, none⟩ = some (.pointer (some ⟨bi, 0, none⟩)))
                      (first | go_keep | fail) (fail)
                    go_wp2
                    go_roundw
                    case rel => exact ⟨i + 1, by omega, by go_num, by rw [HRT.out], (HAR3.out.setCell (by have := HPG.out; simp only; omega)).kp (Kp.refl _).drew, HB2.out.kp (Kp.refl _).drew, HOB.out, (Kp.set hkp3 (Nat.le_of_lt HPG.out) _).drew⟩
                    case measure => simp [intOf]; omega
          · obtain rfl : i = l.length := by omega
            have hiuI : ¬ ((l.length : Int) < (up.length : Int)) := by rw [HUL.out]; omega
            have HAR2 := hide har
            have HBK2 := hide hbk
            clear har
            go_wp2
            have hroot := mtP_root up t l.length hTA.out (by omega) hUP.out
            have hmr := mtP_mr (w := wr) (nt := 113) up (l.map Prod.fst) bl l.length (fun i j hi hj => HIN.out i j (by rw [HBL.out]; exact hi) (by rw [HBL.out]; exact hj)) (fun k hk => HBK2.out k (by rw [HBL.out]; exact hk)) t 0 (-1) hTA.out (by omega) (.inl (by omega)) (fun j hj => by rw [Nat.zero_add, gI, hUP.out]) (fun j h1 h2 => by omega)
            refine bodyPost_ret (v := .tuple #[.pointer (adB bl (rtF up l.length)), .int .i64 0]) (by simp [results, Tryd.results34, go_sem]) rfl ⟨_, _, by rw [hvt.out, HOK.out]; rfl, by rw [hvt.out, HOK.out, hroot]; exact hmr, fun x hx => ?_, HK1.out.trans hkp2⟩
            obtain ⟨j, _, h2, rfl⟩ := fP_in bl t 0 hTA.out x hx
            have h3 := HGT.out j (by rw [HBL.out]; omega)
            have h4 := HK1.out.size
            omega
  · have hvt : Hid (readZ l = (.nil, (parOf l).2)) := hide (by rw [readZ, if_pos h0])
    have hb : ((parOf l).2 != 0) = true := by simpa using h0
    clear h0
    go_enter Tryd.func34, Tryd.ntmps34
    go_wp2_with fail
    with_reducible refine (HPA.out _ _ HR.out).mono ?_
    rintro e w1 ⟨v1, rfl, hr1, hb1⟩
    clear hr1
    go_wp2
    exact bodyPost_ret (v := .tuple #[.pointer none, .int .i64 (parOf l).2]) (by simp [results, Tryd.results34, go_sem]) rfl ⟨none, [], by rw [hvt.out], by rw [hvt.out]; exact MR.nil, by simp, hb1⟩
end Go.Proofs.YtfgbbmjnjppfnaaDoor
namespace Go.Proofs.YtfgbbmjnjppfnaaDoor
open Go.ChangeShapes Go.WideShapes Go.ChangeAt Go.RowKit
set_option linter.unusedVariables false
set_option linter.unusedSimpArgs false

theorem MR.uniq {α : Type} {E : Enc α} {nt : TypeId} {w : World} : ∀ {t t' : MT α} {p : Option Addr} {F F' : List Nat}, MR w nt E t p F → MR w nt E t' p F' → t.size = t'.size
  | .nil, .nil, _, _, _, _, _ => rfl
  | .nil, .node _ _ _, p, F, F', ⟨h, _⟩, ⟨b, _, _, _, _, h', _⟩ => by rw [h] at h'; cases h'
  | .node _ _ _, .nil, p, F, F', ⟨b, _, _, _, _, h', _⟩, ⟨h, _⟩ => by rw [h] at h'; cases h'
  | .node a l r, .node a' l' r', p, F, F', ⟨b, pl, pr, Fl, Fr, h1, _, h2, _, _, _, hl, hr⟩, ⟨b', pl', pr', Fl', Fr', h1', _, h2', _, _, _, hl', hr'⟩ => by
    rw [h1] at h1'
    injection h1' with h1'
    injection h1' with h1'
    subst h1'
    unfold BC at h2 h2'
    rw [h2] at h2'
    injection h2' with h2'
    injection h2' with h3
    have h4 : nodeC E a pl pr = nodeC E a' pl' pr' := by simpa using congrArg Array.toList h3
    unfold nodeC at h4
    have h5 := (List.append_inj h4 (by rw [E.len, E.len])).2
    simp at h5
    obtain ⟨rfl, rfl⟩ := h5
    simp only [MT.size]
    rw [MR.uniq hl hl', MR.uniq hr hr']
/-- The size of the tree that a link holds. -/
noncomputable def szAt {α : Type} (nt : TypeId) (E : Enc α) (v : Value) (w : World) : Nat := by
  classical
  exact if h : ∃ (q : Addr) (t : MT α) (p : Option Addr) (F : List Nat), v = .pointer (some q) ∧ w.cell? q = some (.pointer p) ∧ MR w nt E t p F then h.choose_spec.choose.size else 0
theorem szAt_eq {α : Type} {E : Enc α} {nt : TypeId} {w : World} {q : Addr} {t : MT α} {p : Option Addr} {F : List Nat} (hc : w.cell? q = some (.pointer p)) (hm : MR w nt E t p F) : szAt nt E (.pointer (some q)) w = t.size := by
  unfold szAt
  have h : ∃ (q' : Addr) (t : MT α) (p : Option Addr) (F : List Nat), Value.pointer (some q) = .pointer (some q') ∧ w.cell? q' = some (.pointer p) ∧ MR w nt E t p F := ⟨q, t, p, F, rfl, hc, hm⟩
  rw [dif_pos h]
  obtain ⟨p', F', h1, h2, h3⟩ := h.choose_spec.choose_spec
  generalize h.choose_spec.choose = t' at h3
  generalize h.choose = q' at h1 h2
  injection h1 with h1
  injection h1 with h1
  subst h1
  rw [hc] at h2
  injection h2 with h2
  injection h2 with h2
  subst h2
  exact (MR.uniq hm h3).symm

/-- The way goes by a key. -/
def Dir {α : Type} (kf : α → Int) (C : List (Fm α)) (key : Int) : Prop := ∀ f ∈ C, (f.left = true → key < kf f.a) ∧ (f.left = false → kf f.a < key)
theorem Dir.nil {α : Type} {kf : α → Int} {key : Int} : Dir kf [] key := fun f hf => by cases hf
theorem Dir.cons {α : Type} {kf : α → Int} {C : List (Fm α)} {key : Int} {f : Fm α} (h : Dir kf C key) (hf : (f.left = true → key < kf f.a) ∧ (f.left = false → kf f.a < key)) : Dir kf (f :: C) key := fun x hx => by
  rcases List.mem_cons.1 hx with rfl | hx
  · exact hf
  · exact h x hx
/-- Where the way of a link stands. -/
structure At_ {α : Type} (w : World) (nt : TypeId) (E : Enc α) (kf : α → Int) (r0 : Addr) (T : MT α) (F : List Nat) (key : Int) (C : List (Fm α)) (q : Addr) (t : MT α) (p : Option Addr) (Fc Ft : List Nat) : Prop where
  zp : ZP w nt E r0 C q Fc
  cell : w.cell? q = some (.pointer p)
  fz : w.frozen? q = false
  mr : MR w nt E t p Ft
  dis : ∀ x ∈ Ft, x ∉ Fc
  eq : T = plug C t
  dir : Dir kf C key
  sub : ∀ x, x ∈ Ft ∨ x ∈ Fc → x ∈ F
theorem At_.start {α : Type} {w : World} {nt : TypeId} {E : Enc α} {kf : α → Int} {r0 : Addr} {T : MT α} {F : List Nat} {p : Option Addr} (key : Int) (hc : w.cell? r0 = some (.pointer p)) (hf : w.frozen? r0 = false) (hm : MR w nt E T p F) :
    At_ w nt E kf r0 T F key [] r0 T p [] F := ⟨ZP.nil, hc, hf, hm, by simp, rfl, Dir.nil, fun x hx => by simpa using hx⟩
theorem At_.down {α : Type} {w : World} {nt : TypeId} {E : Enc α} {kf : α → Int} {r0 : Addr} {T : MT α} {F : List Nat} {key : Int} {C : List (Fm α)} {q : Addr} {a : α} {l r : MT α} {b : Nat} {pl pr : Option Addr} {Fc Fl Fr : List Nat}
    (h : At_ w nt E kf r0 T F key C q (.node a l r) (some ⟨b, 0, none⟩) Fc (b :: (Fl ++ Fr))) (hb : BC w b nt (nodeC E a pl pr)) (h1 : b ∉ Fl) (h2 : b ∉ Fr) (h3 : ∀ x ∈ Fl, x ∉ Fr) (hl : MR w nt E l pl Fl) (hr : MR w nt E r pr Fr) :
    (key < kf a → At_ w nt E kf r0 T F key (⟨a, true, r⟩ :: C) ⟨b, E.size, none⟩ l pl (b :: (Fr ++ Fc)) Fl) ∧ (kf a < key → At_ w nt E kf r0 T F key (⟨a, false, l⟩ :: C) ⟨b, E.size + 1, none⟩ r pr (b :: (Fl ++ Fc)) Fr) := by
  have hbc : b ∉ Fc := h.dis b (by simp)
  have hlc : ∀ x ∈ Fl, x ∉ Fc := fun x hx => h.dis x (by simp [hx])
  have hrc : ∀ x ∈ Fr, x ∉ Fc := fun x hx => h.dis x (by simp [hx])
  refine ⟨fun hk => ⟨?_, ?_, hb.frozen _, hl, ?_, by rw [h.eq]; rfl, h.dir.cons ⟨fun _ => hk, fun h => by simp at h⟩, ?_⟩, fun hk => ⟨?_, ?_, hb.frozen _, hr, ?_, by rw [h.eq]; rfl, h.dir.cons ⟨fun h => by simp at h, fun _ => hk⟩, ?_⟩⟩
  · exact h.zp.push h.cell hb hl hr h1 h2 hbc hlc hrc true
  · exact hb.link true
  · intro x hx hx'
    rcases List.mem_cons.1 hx' with rfl | hx'
    · exact h1 hx
    · rcases List.mem_append.1 hx' with hx' | hx'
      · exact h3 x hx hx'
      · exact hlc x hx hx'
  · intro x hx
    refine h.sub x ?_
    simp only [List.mem_cons, List.mem_append] at hx ⊢
    rcases hx with hx | hx | hx | hx
    · exact .inl (.inr (.inl hx))
    · exact .inl (.inl hx)
    · exact .inl (.inr (.inr hx))
    · exact .inr hx
  · exact h.zp.push h.cell hb hl hr h1 h2 hbc hlc hrc false
  · exact hb.link false
  · intro x hx hx'
    rcases List.mem_cons.1 hx' with rfl | hx'
    · exact h2 hx
    · rcases List.mem_append.1 hx' with hx' | hx'
      · exact h3 x hx' hx
      · exact hrc x hx hx'
  · intro x hx
    refine h.sub x ?_
    simp only [List.mem_cons, List.mem_append] at hx ⊢
    rcases hx with hx | hx | hx | hx
    · exact .inl (.inr (.inr hx))
    · exact .inl (.inl hx)
    · exact .inl (.inr (.inl hx))
    · exact .inr hx

def PlRel (w : World) (r0 : Addr) (T : MT IP) (F : List Nat) (key : Int) (nt : TypeId) (qv : Value) (wr : World) : Prop :=
  ∃ C q t p Fc Ft, qv = .pointer (some q) ∧ At_ w nt ePair Prod.fst r0 T F key C q t p Fc Ft ∧ w = wr
def PlPost (w : World) (r0 : Addr) (T : MT IP) (F : List Nat) (key : Int) (nt : TypeId) (e : Ending) (w' : World) : Prop :=
  ∃ C q t p Fc Ft, e = .returned (.pointer (some q)) ∧ At_ w nt ePair Prod.fst r0 T F key C q t p Fc Ft ∧ (∀ a l r, t = .node a l r → a.1 = key) ∧ w = w'

/-! Put: a new leaf where the way ends. -/
def ins : MT IP → IP → MT IP
  | .nil, p => .node p .nil .nil
  | .node a l r, p => if p.1 < a.1 then .node a (ins l p) r else if a.1 < p.1 then .node a l (ins r p) else .node a l r
theorem ins_on {f : Fm IP} {p : IP} (h : (f.left = true → p.1 < f.a.1) ∧ (f.left = false → f.a.1 < p.1)) (t : MT IP) : ins (f.on t) p = f.on (ins t p) := by
  obtain ⟨a, left, o⟩ := f
  cases left with
  | true => simp [Fm.on, ins, h.1 rfl]
  | false =>
    have := h.2 rfl
    simp only at this
    simp [Fm.on, ins, this, show ¬ p.1 < a.1 by omega]
theorem ins_plug {p : IP} : ∀ (C : List (Fm IP)) (t : MT IP), Dir Prod.fst C p.1 → ins (plug C t) p = plug C (ins t p)
  | [], _, _ => rfl
  | f :: C, t, h => by
    have h1 := ins_plug C (f.on t) (fun x hx => h x (by simp [hx]))
    rw [plug, h1, ins_on (h f (by simp)), plug]
/-- What a call leaves that changes the tree of a link. -/
def TPost {α : Type} (nt : TypeId) (E : Enc α) (r0 : Addr) (T' : MT α) (F : List Nat) (w : World) (e : Ending) (w' : World) : Prop :=
  ∃ p F', e = .returned (.tuple #[]) ∧ w'.cell? r0 = some (.pointer p) ∧ MR w' nt E T' p F' ∧ (∀ x ∈ F', x ∈ F ∨ w.heap.size ≤ x) ∧ w'.frozen? r0 = false ∧ Kf (fun i => i = r0.block ∨ i ∈ F) w w'
theorem ZP.blk {α : Type} {w : World} {nt : TypeId} {E : Enc α} {r0 q : Addr} {C : List (Fm α)} {F : List Nat} (h : ZP w nt E r0 C q F) {F0 : List Nat} (hs : ∀ x ∈ F, x ∈ F0) : q.block = r0.block ∨ q.block ∈ F0 := by
  rcases h.at_ with rfl | h
  · exact .inl rfl
  · exact .inr (hs _ h)
/-- The store into a link makes the tree anew. -/
theorem At_.put {α : Type} {w w1 : World} {nt : TypeId} {E : Enc α} {kf : α → Int} {r0 : Addr} {T : MT α} {F : List Nat} {key : Int} {C : List (Fm α)} {q : Addr} {t : MT α} {p : Option Addr} {Fc Ft : List Nat} (h : At_ w nt E kf r0 T F key C q t p Fc Ft)
    (hr : r0.block ∉ F) (hk : Kp w w1) (hrl : r0.block < w.heap.size) (hfr : w.frozen? r0 = false) {t' : MT α} {p' : Option Addr} {Ft' : List Nat} (hm : MR w1 nt E t' p' Ft') (hd : ∀ x ∈ Ft', x ∉ Fc) (hq : q.block ∉ Ft') (hn : ∀ x ∈ Ft', x ∈ F ∨ w.heap.size ≤ x) :
    ∃ p0 F0, (w1.setCell q (.pointer p')).cell? r0 = some (.pointer p0) ∧ MR (w1.setCell q (.pointer p')) nt E (plug C t') p0 F0 ∧ (∀ x ∈ F0, x ∈ F ∨ w.heap.size ≤ x) ∧ (w1.setCell q (.pointer p')).frozen? r0 = false ∧ Kf (fun i => i = r0.block ∨ i ∈ F) w (w1.setCell q (.pointer p')) := by
  have hfc : r0.block ∉ Fc := fun hx => hr (h.sub _ (.inr hx))
  have hz1 := (h.zp.kp hk hrl).store hfc p'
  have hqc : (w1.setCell q (.pointer p')).cell? q = some (.pointer p') := World.cell?_setCell_same' w1 q _ (by rw [hk.cell h.cell]; rfl)
  obtain ⟨p0, F0, g1, g2, g3⟩ := hz1.close hqc (hm.set hq) hd
  refine ⟨p0, F0, g1, g2, fun x hx => ?_, ?_, ?_⟩
  · rcases (g3 x).1 hx with hx | hx
    · exact hn x hx
    · exact .inl (h.sub x (.inr hx))
  · rw [World.frozen?_setCell, hk.frozen hrl]; exact hfr
  · exact (Kf.of hk).set (.inl (h.zp.blk fun x hx => h.sub x (.inr hx)))
end Go.Proofs.YtfgbbmjnjppfnaaDoor
namespace Go.Proofs.YtfgbbmjnjppfnaaDoor
open Go.ChangeShapes Go.WideShapes Go.ChangeAt Go.RowKit
set_option linter.unusedVariables false
set_option linter.unusedSimpArgs false

theorem At_.kpZ {α : Type} {w w' : World} {nt : TypeId} {E : Enc α} {kf : α → Int} {r0 : Addr} {T : MT α} {F : List Nat} {key : Int} {C : List (Fm α)} {q : Addr} {t : MT α} {p : Option Addr} {Fc Ft : List Nat} (h : At_ w nt E kf r0 T F key C q t p Fc Ft) (hk : Kp w w') (hr : r0.block < w.heap.size) : At_ w' nt E kf r0 T F key C q t p Fc Ft :=
  ⟨h.zp.kp hk hr, hk.cell h.cell, (hk.frozen (World.block_lt_of_cell? _ _ h.cell)).trans h.fz, h.mr.kp hk, h.dis, h.eq, h.dir, h.sub⟩
/-- The store into a link, behind a call that writes elsewhere. -/
theorem At_.putG {α : Type} {w w1 : World} {nt : TypeId} {E : Enc α} {kf : α → Int} {r0 : Addr} {T : MT α} {F : List Nat} {key : Int} {C : List (Fm α)} {q : Addr} {t : MT α} {p : Option Addr} {Fc Ft : List Nat} (h : At_ w nt E kf r0 T F key C q t p Fc Ft)
    (hr : r0.block ∉ F) (hrl : r0.block < w.heap.size) {G : Nat → Prop} (hk : Kf G w w1) (hG : ∀ i ∈ Fc, ¬ G i) (hGr : ¬ G r0.block) {t' : MT α} {p' : Option Addr} {Ft' : List Nat} (hm : MR w1 nt E t' p' Ft') (hd : ∀ x ∈ Ft', x ∉ Fc) (hq : r0.block ∉ Ft') :
    ∃ p0 F0, (w1.setCell q (.pointer p')).cell? r0 = some (.pointer p0) ∧ MR (w1.setCell q (.pointer p')) nt E (plug C t') p0 F0 ∧ (∀ x ∈ F0, x ∈ Ft' ∨ x ∈ Fc) ∧ Kf (fun i => G i ∨ i = r0.block ∨ i ∈ Fc) w (w1.setCell q (.pointer p')) := by
  have hfc : r0.block ∉ Fc := fun hx => hr (h.sub _ (.inr hx))
  have hqG : ¬ G q.block := by
    rcases h.zp.at_ with e | hx
    · rw [e]; exact hGr
    · exact hG _ hx
  have hqF : q.block ∉ Ft' := by
    rcases h.zp.at_ with e | hx
    · rw [e]; exact hq
    · exact fun h' => hd _ h' hx
  have hz1 := (h.zp.kf hk hGr hrl hG).store hfc p'
  have hqc : (w1.setCell q (.pointer p')).cell? q = some (.pointer p') := World.cell?_setCell_same' w1 q _ (by rw [hk.cell hqG h.cell]; rfl)
  obtain ⟨p0, F0, g1, g2, g3⟩ := hz1.close hqc (hm.set hqF) hd
  refine ⟨p0, F0, g1, g2, fun x hx => (g3 x).1 hx, (hk.mono fun i _ hi => .inl hi).set (.inl (.inr ?_))⟩
  rcases h.zp.at_ with e | hx
  · exact .inl (by rw [e])
  · exact .inr hx
def cutM : MT IP → Int → MT IP
  | .nil, _ => .nil
  | .node a l r, k => if k < a.1 then .node a (cutM l k) r else if a.1 < k then .node a l (cutM r k) else zipM l r
theorem cutM_on {f : Fm IP} {k : Int} (h : (f.left = true → k < f.a.1) ∧ (f.left = false → f.a.1 < k)) (t : MT IP) : cutM (f.on t) k = f.on (cutM t k) := by
  obtain ⟨a, left, o⟩ := f
  cases left with
  | true => simp [Fm.on, cutM, h.1 rfl]
  | false =>
    have := h.2 rfl
    simp only at this
    simp [Fm.on, cutM, this, show ¬ k < a.1 by omega]
theorem cutM_plug {k : Int} : ∀ (C : List (Fm IP)) (t : MT IP), Dir Prod.fst C k → cutM (plug C t) k = plug C (cutM t k)
  | [], _, _ => rfl
  | f :: C, t, h => by
    have h1 := cutM_plug C (f.on t) (fun x hx => h x (by simp [hx]))
    rw [plug, h1, cutM_on (h f (by simp)), plug]
def putM : MT IP → IP → MT IP
  | .nil, p => .node p .nil .nil
  | .node a l r, p => if ov a p then (if p.1 = a.1 then .node a l r else if p.1 < a.1 then .node a (putM l p) r else .node a l (putM r p)) else if a.1 = p.1 then .node a l r else .node p (unz (.node a l r) p.1).1 (unz (.node a l r) p.1).2
theorem putM_on {f : Fm IP} {p : IP} (h : (f.left = true → p.1 < f.a.1) ∧ (f.left = false → f.a.1 < p.1)) (ho : ov f.a p = true) (t : MT IP) : putM (f.on t) p = f.on (putM t p) := by
  obtain ⟨a, left, o⟩ := f
  simp only at ho h
  cases left with
  | true =>
    have := h.1 rfl
    simp [Fm.on, putM, ho, this, show ¬ p.1 = a.1 by omega]
  | false =>
    have := h.2 rfl
    simp [Fm.on, putM, ho, this, show ¬ p.1 < a.1 by omega, show ¬ p.1 = a.1 by omega]
theorem putM_plug {p : IP} : ∀ (C : List (Fm IP)) (t : MT IP), Dir Prod.fst C p.1 → (∀ f ∈ C, ov f.a p = true) → putM (plug C t) p = plug C (putM t p)
  | [], _, _, _ => rfl
  | f :: C, t, h, ho => by
    have h1 := putM_plug C (f.on t) (fun x hx => h x (by simp [hx])) (fun x hx => ho x (by simp [hx]))
    rw [plug, h1, putM_on (h f (by simp)) (ho f (by simp)), plug]
/-- A call that answers the tree anew. -/
def ZmPost (nt : TypeId) (T' : MT IP) (F : List Nat) (w : World) (e : Ending) (w' : World) : Prop :=
  ∃ p F', e = .returned (.pointer p) ∧ MR w' nt ePair T' p F' ∧ (∀ x ∈ F', x ∈ F ∨ w.heap.size ≤ x) ∧ Kf (fun i => i ∈ F) w w'
def ZcRel (nt : TypeId) (w : World) (r0 : Addr) (T : MT IP) (F : List Nat) (key : Int) (qv : Value) (wr : World) : Prop :=
  ∃ C q t p Fc Ft, qv = .pointer (some q) ∧ At_ wr nt ePair Prod.fst r0 T F key C q t p Fc Ft ∧ r0.block < wr.heap.size ∧ Kp w wr
set_option maxRecDepth 100000 in
set_option maxHeartbeats 4000000 in
theorem zcut_any (T : MT IP) (p0 : Option Addr) (F : List Nat) (key : Int) (w : World) (hm : MR w 113 ePair T p0 F) : Calls Tryd.prog 44 #[.pointer p0, .int .i64 key] w (ZmPost 113 (cutM T key) F w) := by
  have hFl := hm.lt
  have HRF : Hid ((⟨w.heap.size, 0, none⟩ : Addr).block ∉ F) := hide (fun h => by have := hFl _ h; simp at this)
  have HS : Hid (At_ (w.alloc (.cells #[.pointer p0] 73)) 113 ePair Prod.fst ⟨w.heap.size, 0, none⟩ T F key [] ⟨w.heap.size, 0, none⟩ T p0 [] F) := hide (At_.start key (by simp [go_sem]) (by simp [go_sem]) (hm.kp (Kp.refl w).alloc))
  have HFL := hide hFl
  clear hm hFl
  go_enter Tryd.func44, Tryd.ntmps44
  go_wp2
  go_loopw [5] (ZcRel 113 w ⟨w.heap.size, 0, none⟩ T F key) (szAt 113 ePair)
  case atStart => exact ⟨_, _, _, _, _, _, rfl, HS.out, by simp, (Kp.refl w).alloc⟩
  case round =>
    obtain ⟨C, q, t, p, Fc, Ft, rfl, ha, hrl, hkp⟩ := hrel
    have HA := hide ha
    have c0 := ha.cell
    have hm := ha.mr
    have HRL := hide hrl
    have HKP := hide hkp
    clear ha hkp
    cases p with
    | none =>
      obtain ⟨rfl, rfl⟩ := hm.of_none
      obtain ⟨p1, F1, k1, k2, k3⟩ := HA.out.zp.close HA.out.cell hm HA.out.dis
      have HK2 := hide k2
      have HK3 := hide k3
      have hT : Hid (cutM T key = plug C .nil) := hide (by rw [HA.out.eq, cutM_plug C _ HA.out.dir]; rfl)
      clear hm k2 k3
      go_wp2
      exact bodyPost_ret (v := .pointer p1) (by simp [results, Tryd.results44, go_sem]) rfl ⟨p1, F1, rfl, by rw [hT.out]; exact HK2.out, fun x hx => .inl (HA.out.sub x ((HK3.out x).1 hx)), Kf.of HKP.out⟩
    | some ad =>
      obtain ⟨a, l, r, b, pl, pr, Fl, Fr, rfl, rfl, rfl, hb, g1, g2, g3, hl, hr⟩ := hm.of_some
      have ck : wr.cell? ⟨b, 0, none⟩ = some (.int .i64 a.1) := hb.cell 0
      have HMS := hide (szAt_eq c0 hm)
      have HML := hide (szAt_eq (hb.link true) hl)
      have HMR := hide (szAt_eq (hb.link false) hr)
      have HD := hide (HA.out.down hb g1 g2 g3 hl hr)
      have cl : wr.cell? ⟨b, 2, none⟩ = some (.pointer pl) := hb.link true
      have cr : wr.cell? ⟨b, 3, none⟩ = some (.pointer pr) := hb.link false
      have HL := hide hl
      have HR := hide hr
      have G1 := hide g1
      have G2 := hide g2
      have G3 := hide g3
      clear hm hb g1 g2 g3 hl hr
      rcases Int.lt_trichotomy key a.1 with hk | hk | hk
      · have d1 : (a.1 != key) = true := by rw [bne_iff_ne]; omega
        have HN := hide (HD.out.1 hk)
        clear HMR
        go_wp2
        go_roundw
        case rel => exact ⟨_, _, _, _, _, _, rfl, HN.out, HRL.out, HKP.out⟩
        case measure => exact Nat.lt_of_lt_of_le (Nat.lt_of_le_of_lt (Nat.le_of_eq HML.out) (by simp only [MT.size]; omega)) (Nat.le_of_eq HMS.out.symm)
      · have d1 : (a.1 != key) = false := by simp [hk]
        have HT : Hid (cutM T key = plug C (zipM l r)) := hide (by rw [HA.out.eq, cutM_plug C _ HA.out.dir, cutM, if_neg (by omega), if_neg (by omega)])
        have HZ := hide (fun W (h1 : Kp wr W) => zipped_any _ l r pl pr Fl Fr W (Nat.le_refl _) (HL.out.kp h1) (HR.out.kp h1) G3.out)
        have hqn : ¬ (q.block ∈ Fl ∨ q.block ∈ Fr) := by
          rcases HA.out.zp.at_ with e | hx
          · rw [e]
            rintro (h | h)
            · exact HRF.out (HA.out.sub _ (.inl (by simp [h])))
            · exact HRF.out (HA.out.sub _ (.inl (by simp [h])))
          · rintro (h | h)
            · exact HA.out.dis _ (by simp [h]) hx
            · exact HA.out.dis _ (by simp [h]) hx
        have HQN := hide hqn
        have KW0 := Kp.refl wr
        have f0 := HA.out.fz
        have hql := World.block_lt_of_cell? _ _ c0
        clear hk hqn HML HMR HMS HD
        go_wp2_with fail
        go_region_law (go_simp; (go_at_call 37); (with_reducible refine (HZ.out _ ?_).mono ?_); (go_split_ands; (focus ((repeat (first | (with_reducible assumption) | (with_reducible exact Kp.refl _) | (with_reducible apply Kp.drew) | (with_reducible apply Kp.drewN) | ((with_reducible apply Kp.setR); (focus (first | (with_reducible assumption) | (simp; done) | (simp; omega)))) | (with_reducible apply Kp.alloc) | ((with_reducible apply Kp.call); (with_reducible assumption)) | ((with_reducible apply Kp.app); (with_reducible assumption)))); done))); rintro e w2 ⟨p2, F2, rfl, hm2, hF2, hk2⟩; have c2 := hk2.cell HQN.out c0; have f2 := (hk2.frozen hql HQN.out).trans f0)
        all_goals
          have hdc : ∀ i, i ∈ Fl ∨ i ∈ Fr → i ∉ Fc := fun i h => HA.out.dis i (by simp only [List.mem_cons, List.mem_append]; exact .inr h)
          have hdF : ∀ i, i ∈ Fl ∨ i ∈ Fr → i ∈ F := fun i h => HA.out.sub i (.inl (by simp only [List.mem_cons, List.mem_append]; exact .inr h))
          obtain ⟨p1, F1, q1, q2, q3, q4⟩ := (HA.out.kpZ (Kp.refl wr).drew HRL.out).putG HRF.out HRL.out hk2 (fun i hi h => hdc i h hi) (fun h => HRF.out (hdF _ h)) hm2 (fun x hx => hdc x (hF2 x hx)) (fun h => HRF.out (hdF _ (hF2 _ h)))
          have HQ2 := hide q2
          have HQ3 := hide q3
          have HQ4 := hide q4
          have HDF := hide hdF
          have HHF := hide hF2
          clear q2 q3 q4 hdc hdF hm2 hF2 hk2
          go_wp2
          refine bodyPost_ret (v := .pointer p1) (by simp [results, Tryd.results44, go_sem]) rfl ⟨p1, F1, rfl, by rw [HT.out]; exact HQ2.out, fun x hx => .inl ?_, ?_⟩
          · rcases HQ3.out x hx with h | h
            · exact HDF.out x (HHF.out x h)
            · exact HA.out.sub x (.inr h)
          · exact (Kf.of (F := fun i => i ∈ F) (Kp.drew HKP.out)).trans HQ4.out (fun i hi h => by
              rcases h with h | h | h
              · exact HDF.out i h
              · rw [h] at hi; simp at hi
              · exact HA.out.sub i (.inr h))
      · have d1 : (a.1 != key) = true := by rw [bne_iff_ne]; omega
        have d2 : decide (key < a.1) = false := by simp; omega
        have HN := hide (HD.out.2 hk)
        clear HML
        go_wp2
        go_roundw
        case rel => exact ⟨_, _, _, _, _, _, rfl, HN.out, HRL.out, HKP.out⟩
        case measure => exact Nat.lt_of_lt_of_le (Nat.lt_of_le_of_lt (Nat.le_of_eq HMR.out) (by simp only [MT.size]; omega)) (Nat.le_of_eq HMS.out.symm)
end Go.Proofs.YtfgbbmjnjppfnaaDoor
