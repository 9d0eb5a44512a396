/-
  zip.over, unzipped, zipped: what they answer. Conditions: the trees are written as MR says.
-/
import Derived.Test.YtfgbbmjnjppfnaaDoorZipBackM3
import Derived.BigQuiet

namespace Go.Proofs.YtfgbbmjnjppfnaaDoor
open Go.ChangeShapes Go.WideShapes Go.ChangeAt Go.RowKit
set_option linter.unusedVariables false
set_option linter.unusedSimpArgs false

/-- Does one stand above another one? -/
def ov (a c : IP) : Bool := decide (c.2 < a.2) || (a.2 == c.2 && decide (a.1 < c.1))
def unz : MT IP → Int → MT IP × MT IP
  | .nil, _ => (.nil, .nil)
  | .node a l r, k => if a.1 < k then (.node a l (unz r k).1, (unz r k).2) else ((unz l k).1, .node a (unz l k).2 r)
def zipM : MT IP → MT IP → MT IP
  | .nil, t => t
  | .node a l r, .nil => .node a l r
  | .node a l r, .node c x y => if ov a c then .node a l (zipM r (.node c x y)) else .node c (zipM (.node a l r) x) y
termination_by t u => t.size + u.size
decreasing_by all_goals simp only [MT.size]; omega
theorem zipM_nil (t : MT IP) : zipM t .nil = t := by cases t <;> simp [zipM]
theorem zipM_node (a c : IP) (l r x y : MT IP) : zipM (.node a l r) (.node c x y) = if ov a c then .node a l (zipM r (.node c x y)) else .node c (zipM (.node a l r) x) y := by rw [zipM]
set_option maxRecDepth 100000 in
set_option maxHeartbeats 2000000 in
theorem over_any (b1 b2 : Nat) (a c : IP) (w : World) (x0 : w.cell? ⟨b1, 0, none⟩ = some (.int .i64 a.1)) (x1 : w.cell? ⟨b1, 1, none⟩ = some (.int .i64 a.2)) (y0 : w.cell? ⟨b2, 0, none⟩ = some (.int .i64 c.1)) (y1 : w.cell? ⟨b2, 1, none⟩ = some (.int .i64 c.2)) :
    Calls Tryd.prog 57 #[.pointer (some ⟨b1, 0, none⟩), .pointer (some ⟨b2, 0, none⟩)] w (Ret (.bool (ov a c)) w) := by
  obtain ⟨a1, a2⟩ := a
  obtain ⟨c1, c2⟩ := c
  simp only at x0 x1 y0 y1
  rcases Int.lt_trichotomy c2 a2 with h | h | h
  · have H : Hid (ov (a1, a2) (c1, c2) = true) := hide (by simp [ov, h])
    have d1 : decide (c2 < a2) = true := by simp [h]
    go_enter Tryd.func57, Tryd.ntmps57
    go_wp2_with fail
    go_quiet (fail)
    go_wp2
    go_ret
    exact ⟨by rw [H.out]; rfl, below_drewN (Below.refl _ _) _⟩
  · subst h
    by_cases h2 : a1 < c1
    · have H : Hid (ov (a1, c2) (c1, c2) = true) := hide (by simp [ov, h2])
      have d1 : decide (c2 < c2) = false := by simp
      have d2 : (c2 == c2) = true := by simp
      have d3 : decide (a1 < c1) = true := by simp [h2]
      go_enter Tryd.func57, Tryd.ntmps57
      go_wp2_with fail
      go_quiet (fail)
      go_wp2
      go_ret
      exact ⟨by rw [H.out]; rfl, below_drewN (Below.refl _ _) _⟩
    · have H : Hid (ov (a1, c2) (c1, c2) = false) := hide (by simp [ov]; omega)
      have d1 : decide (c2 < c2) = false := by simp
      have d2 : (c2 == c2) = true := by simp
      have d3 : decide (a1 < c1) = false := by simp; omega
      go_enter Tryd.func57, Tryd.ntmps57
      go_wp2_with fail
      go_quiet (fail)
      go_wp2
      go_ret
      exact ⟨by rw [H.out]; rfl, below_drewN (Below.refl _ _) _⟩
  · have H : Hid (ov (a1, a2) (c1, c2) = false) := hide (by simp [ov]; omega)
    have d1 : decide (c2 < a2) = false := by simp; omega
    have d2 : (a2 == c2) = false := by simp; omega
    go_enter Tryd.func57, Tryd.ntmps57
    go_wp2_with fail
    go_quiet (fail)
    go_wp2
    go_ret
    exact ⟨by rw [H.out]; rfl, below_drewN (Below.refl _ _) _⟩

/-- A call that parts a tree. -/
def UzPost (nt : TypeId) (t : MT IP × MT IP) (F : List Nat) (w : World) (e : Ending) (w' : World) : Prop :=
  ∃ pa pb Fa Fb, e = .returned (.tuple #[.pointer pa, .pointer pb]) ∧ MR w' nt ePair t.1 pa Fa ∧ MR w' nt ePair t.2 pb Fb ∧ (∀ x ∈ Fa, x ∈ F) ∧ (∀ x ∈ Fb, x ∈ F) ∧ (∀ x ∈ Fa, x ∉ Fb) ∧ Kf (fun i => i ∈ F) w w'
set_option maxRecDepth 100000 in
set_option maxHeartbeats 2000000 in
theorem unzipped_any : ∀ (t : MT IP) (p : Option Addr) (F : List Nat) (k : Int) (w : World), MR w 113 ePair t p F → Calls Tryd.prog 35 #[.pointer p, .int .i64 k] w (UzPost 113 (unz t k) F w)
  | .nil, p, F, k, w, hm => by
    obtain ⟨rfl, rfl⟩ := hm
    go_enter Tryd.func35, Tryd.ntmps35
    go_wp2
    exact bodyPost_ret (v := .tuple #[.pointer none, .pointer none]) (by simp [results, Tryd.results35, go_sem]) rfl ⟨none, none, [], [], rfl, MR.nil, MR.nil, by simp, by simp, by simp, Kf.refl _ _⟩
  | .node a l r, p, F, k, w, hm => by
    obtain ⟨b, pl, pr, Fl, Fr, rfl, rfl, hb, g1, g2, g3, hl, hr⟩ := hm
    have x0 : w.cell? ⟨b, 0, none⟩ = some (.int .i64 a.1) := hb.cell 0
    have cl : w.cell? ⟨b, 2, none⟩ = some (.pointer pl) := hb.link true
    have cr : w.cell? ⟨b, 3, none⟩ = some (.pointer pr) := hb.link false
    have HB := hide hb
    have HL := hide hl
    have HR := hide hr
    have G1 := hide g1
    have G2 := hide g2
    have G3 := hide g3
    by_cases h1 : a.1 < k
    · have IH := hide (unzipped_any r pr Fr k w hr)
      have HF : Hid (unz (.node a l r) k = (.node a l (unz r k).1, (unz r k).2)) := hide (by rw [unz, if_pos h1])
      have d1 : decide (a.1 < k) = true := by simp [h1]
      clear hb hl hr g1 g2 g3 h1
      go_enter Tryd.func35, Tryd.ntmps35
      go_wp2_with fail
      with_reducible refine IH.out.mono ?_
      rintro e w1 ⟨pa, pb, Fa, Fb, rfl, ha, hb1, s1, s2, s3, hk⟩
      have HA := hide ha
      have HB1 := hide hb1
      have HK := hide hk
      have f0 : w1.frozen? ⟨b, 3, none⟩ = false := (HB.out.kf hk G2.out).frozen 3
      have c3 : w1.cell? ⟨b, 3, none⟩ = some (.pointer pr) := hk.cell (p := ⟨b, 3, none⟩) G2.out cr
      clear ha hb1 hk
      go_wp2
      have hba : b ∉ Fa := fun h => G2.out (s1 b h)
      have hbb : b ∉ Fb := fun h => G2.out (s2 b h)
      refine bodyPost_ret (v := .tuple #[.pointer (some ⟨b, 0, none⟩), .pointer pb]) (by simp [results, Tryd.results35, go_sem]) rfl ⟨_, pb, b :: (Fl ++ Fa), Fb, rfl, ?_, (by rw [HF.out]; exact HB1.out.set hbb), ?_, ?_, ?_, ?_⟩
      · rw [HF.out]
        refine MR.mk ?_ G1.out hba (fun x hx hx' => G3.out x hx (s1 x hx')) ((HL.out.kf HK.out (fun i hi h => G3.out i hi h)).set G1.out) (HA.out.set hba)
        exact (HB.out.kf HK.out G2.out).set (j := 3)
      · intro x hx
        simp only [List.mem_cons, List.mem_append] at hx ⊢
        rcases hx with h | h | h
        · exact .inl h
        · exact .inr (.inl h)
        · exact .inr (.inr (s1 x h))
      · intro x hx
        simp only [List.mem_cons, List.mem_append]
        exact .inr (.inr (s2 x hx))
      · intro x hx hx'
        simp only [List.mem_cons, List.mem_append] at hx
        rcases hx with h | h | h
        · subst h; exact hbb hx'
        · exact G3.out x h (s2 x hx')
        · exact s3 x h hx'
      · exact (HK.out.mono (G := fun i => i ∈ b :: (Fl ++ Fr)) (fun i _ h => by simp only [List.mem_cons, List.mem_append]; exact .inr (.inr h))).set (.inl (by simp))
    · have IH := hide (unzipped_any l pl Fl k w hl)
      have HF : Hid (unz (.node a l r) k = ((unz l k).1, .node a (unz l k).2 r)) := hide (by rw [unz, if_neg h1])
      have d1 : decide (a.1 < k) = false := by simp; omega
      clear hb hl hr g1 g2 g3 h1
      go_enter Tryd.func35, Tryd.ntmps35
      go_wp2_with fail
      with_reducible refine IH.out.mono ?_
      rintro e w1 ⟨pa, pb, Fa, Fb, rfl, ha, hb1, s1, s2, s3, hk⟩
      have HA := hide ha
      have HB1 := hide hb1
      have HK := hide hk
      have f0 : w1.frozen? ⟨b, 2, none⟩ = false := (HB.out.kf hk G1.out).frozen 2
      have c3 : w1.cell? ⟨b, 2, none⟩ = some (.pointer pl) := hk.cell (p := ⟨b, 2, none⟩) G1.out cl
      clear ha hb1 hk
      go_wp2
      have hba : b ∉ Fa := fun h => G1.out (s1 b h)
      have hbb : b ∉ Fb := fun h => G1.out (s2 b h)
      refine bodyPost_ret (v := .tuple #[.pointer pa, .pointer (some ⟨b, 0, none⟩)]) (by simp [results, Tryd.results35, go_sem]) rfl ⟨pa, _, Fa, b :: (Fb ++ Fr), rfl, (by rw [HF.out]; exact HA.out.set hba), ?_, ?_, ?_, ?_, ?_⟩
      · rw [HF.out]
        refine MR.mk ?_ hbb G2.out (fun x hx hx' => G3.out x (s2 x hx) hx') (HB1.out.set hbb) ((HR.out.kf HK.out (fun i hi h => G3.out i h hi)).set G2.out)
        exact (HB.out.kf HK.out G1.out).set (j := 2)
      · intro x hx
        simp only [List.mem_cons, List.mem_append]
        exact .inr (.inl (s1 x hx))
      · intro x hx
        simp only [List.mem_cons, List.mem_append] at hx ⊢
        rcases hx with h | h | h
        · exact .inl h
        · exact .inr (.inl (s2 x h))
        · exact .inr (.inr h)
      · intro x hx hx'
        simp only [List.mem_cons, List.mem_append] at hx'
        rcases hx' with h | h | h
        · subst h; exact hba hx
        · exact s3 x hx h
        · exact G3.out x (s1 x hx) h
      · exact (HK.out.mono (G := fun i => i ∈ b :: (Fl ++ Fr)) (fun i _ h => by simp only [List.mem_cons, List.mem_append]; exact .inr (.inl h))).set (.inl (by simp))

/-- A call that answers a tree of blocks that were there. -/
def ZpPost (nt : TypeId) (t : MT IP) (F : Nat → Prop) (w : World) (e : Ending) (w' : World) : Prop :=
  ∃ p F', e = .returned (.pointer p) ∧ MR w' nt ePair t p F' ∧ (∀ x ∈ F', F x) ∧ Kf F w w'
set_option maxRecDepth 100000 in
set_option maxHeartbeats 4000000 in
theorem zipped_any : ∀ (n : Nat) (t u : MT IP) (p q : Option Addr) (F G : List Nat) (w : World), t.size + u.size ≤ n → MR w 113 ePair t p F → MR w 113 ePair u q G → (∀ x ∈ F, x ∉ G) →
    Calls Tryd.prog 37 #[.pointer p, .pointer q] w (ZpPost 113 (zipM t u) (fun i => i ∈ F ∨ i ∈ G) w)
  | n, .nil, u, p, q, F, G, w, hn, hm, hu, hd => by
    obtain ⟨rfl, rfl⟩ := hm
    have HU := hide hu
    clear hu
    go_enter Tryd.func37, Tryd.ntmps37
    go_wp2
    exact bodyPost_ret (v := .pointer q) (by simp [results, Tryd.results37, go_sem]) rfl ⟨q, G, rfl, by rw [zipM]; exact HU.out, fun x hx => .inr hx, Kf.refl _ _⟩
  | n, .node a l r, .nil, p, q, F, G, w, hn, hm, hu, hd => by
    obtain ⟨rfl, rfl⟩ := hu
    have HM := hide hm
    obtain ⟨b, pl, pr, Fl, Fr, rfl, _⟩ := id hm
    clear hm
    go_enter Tryd.func37, Tryd.ntmps37
    go_wp2
    exact bodyPost_ret (v := .pointer (some ⟨b, 0, none⟩)) (by simp [results, Tryd.results37, go_sem]) rfl ⟨_, F, rfl, by rw [zipM_nil]; exact HM.out, fun x hx => .inl hx, Kf.refl _ _⟩
  | 0, .node a l r, .node c x y, p, q, F, G, w, hn, hm, hu, hd => by simp [MT.size] at hn
  | n + 1, .node a l r, .node c x y, p, q, F, G, w, hn, hm, hu, hd => by
    have HM := hide hm
    have HU := hide hu
    obtain ⟨b, pl, pr, Fl, Fr, rfl, rfl, hb, g1, g2, g3, hl, hr⟩ := hm
    obtain ⟨b2, px, py, Fx, Fy, rfl, rfl, hb2, k1, k2, k3, hx, hy⟩ := hu
    simp only [MT.size] at hn
    have x0 : w.cell? ⟨b, 0, none⟩ = some (.int .i64 a.1) := hb.cell 0
    have x1 : w.cell? ⟨b, 1, none⟩ = some (.int .i64 a.2) := hb.cell 1
    have y0 : w.cell? ⟨b2, 0, none⟩ = some (.int .i64 c.1) := hb2.cell 0
    have y1 : w.cell? ⟨b2, 1, none⟩ = some (.int .i64 c.2) := hb2.cell 1
    have HOV := hide (over_any b b2 a c w x0 x1 y0 y1)
    have cr : w.cell? ⟨b, 3, none⟩ = some (.pointer pr) := hb.link false
    have cx : w.cell? ⟨b2, 2, none⟩ = some (.pointer px) := hb2.link true
    have HB := hide hb
    have HB2 := hide hb2
    have HL := hide hl
    have HY := hide hy
    have hbG : b ∉ b2 :: (Fx ++ Fy) := hd b (by simp)
    have hb2F : b2 ∉ b :: (Fl ++ Fr) := fun h => hd b2 h (by simp)
    have hz := zipM_node a c l r x y
    cases hov : ov a c with
    | true =>
      rw [hov, if_pos rfl] at hz
      have HZ := hide hz
      rw [hov] at HOV
      have IH := hide (fun w1 h1 h2 => zipped_any n r (.node c x y) pr (some ⟨b2, 0, none⟩) Fr (b2 :: (Fx ++ Fy)) w1 (by simp only [MT.size]; omega) h1 h2 (fun i hi => hd i (by simp [hi])))
      have HR := hide hr
      have G1 := hide g1
      have G2 := hide g2
      have G3 := hide g3
      have HD := hide hd
      have HBG := hide hbG
      clear hb hb2 hl hr hx hy g1 g2 g3 k1 k2 k3 hd hz hov x0 x1 y0 y1 hbG hb2F cx
      go_enter Tryd.func37, Tryd.ntmps37
      go_wp2_with fail
      with_reducible refine HOV.out.mono ?_
      rintro e w1 ⟨rfl, hb1⟩
      have kk1 : Kp w w1 := Kp.of hb1
      have cr1 := kk1.cell cr
      clear hb1
      go_wp2_with fail
      with_reducible refine (IH.out _ (HR.out.kp kk1) (HU.out.kp kk1)).mono ?_
      rintro e w2 ⟨p2, F2, rfl, hm2, hF2, hk2⟩
      have hn2 : ¬ (b ∈ Fr ∨ b ∈ b2 :: (Fx ++ Fy)) := fun h => h.elim G2.out HBG.out
      have hb2' := (HB.out.kp kk1).kf hk2 hn2
      have HBB := hide hb2'
      have f0 : w2.frozen? ⟨b, 3, none⟩ = false := hb2'.frozen 3
      have c3 : w2.cell? ⟨b, 3, none⟩ = some (.pointer pr) := hb2'.link false
      have HM2 := hide hm2
      have HK2 := hide hk2
      have hbF2 : b ∉ F2 := fun h => hn2 (hF2 b h)
      have HHF := hide hF2
      have HBF := hide hbF2
      clear hb2' hm2 hk2 hbF2 hF2 hn2
      go_wp2
      refine bodyPost_ret (v := .pointer (some ⟨b, 0, none⟩)) (by simp [results, Tryd.results37, go_sem]) rfl ⟨_, b :: (Fl ++ F2), rfl, ?_, ?_, ?_⟩
      · rw [HZ.out]
        refine MR.mk ?_ G1.out HBF.out (fun i hi hi' => ?_) (((HL.out.kp kk1).kf HK2.out (fun i hi h => ?_)).set G1.out) (HM2.out.set HBF.out)
        · exact HBB.out.set (j := 3)
        · rcases HHF.out i hi' with h | h
          · exact G3.out i hi h
          · exact HD.out i (by simp [hi]) h
        · rcases h with h | h
          · exact G3.out i hi h
          · exact HD.out i (by simp [hi]) h
      · intro i hi
        simp only [List.mem_cons, List.mem_append] at hi ⊢
        rcases hi with h | h | h
        · exact .inl (.inl h)
        · exact .inl (.inr (.inl h))
        · rcases HHF.out i h with h | h
          · exact .inl (.inr (.inr h))
          · simp only [List.mem_cons, List.mem_append] at h; exact .inr h
      · have h9 : Kf (fun i => i ∈ b :: (Fl ++ Fr) ∨ i ∈ b2 :: (Fx ++ Fy)) w w2 := (Kf.of kk1).trans HK2.out (fun i _ h => by
          rcases h with h | h
          · exact .inl (by simp [h])
          · exact .inr h)
        exact h9.set (.inl (.inl (by simp)))
    | false =>
      rw [hov, if_neg (by simp)] at hz
      have HZ := hide hz
      rw [hov] at HOV
      have IH := hide (fun w1 h1 h2 => zipped_any n (.node a l r) x (some ⟨b, 0, none⟩) px (b :: (Fl ++ Fr)) Fx w1 (by simp only [MT.size]; omega) h1 h2 (fun i hi hi' => hd i hi (by simp [hi'])))
      have HX := hide hx
      have G1 := hide k1
      have G2 := hide k2
      have G3 := hide k3
      have HD := hide hd
      have HBG := hide hb2F
      clear hb hb2 hl hr hx hy g1 g2 g3 k1 k2 k3 hd hz hov x0 x1 y0 y1 hbG hb2F cr
      go_enter Tryd.func37, Tryd.ntmps37
      go_wp2_with fail
      with_reducible refine HOV.out.mono ?_
      rintro e w1 ⟨rfl, hb1⟩
      have kk1 : Kp w w1 := Kp.of hb1
      have cx1 := kk1.cell cx
      clear hb1
      go_wp2_with fail
      with_reducible refine (IH.out _ (HM.out.kp kk1) (HX.out.kp kk1)).mono ?_
      rintro e w2 ⟨p2, F2, rfl, hm2, hF2, hk2⟩
      have hn2 : ¬ (b2 ∈ b :: (Fl ++ Fr) ∨ b2 ∈ Fx) := fun h => h.elim HBG.out G1.out
      have hb2' := (HB2.out.kp kk1).kf hk2 hn2
      have HBB := hide hb2'
      have f0 : w2.frozen? ⟨b2, 2, none⟩ = false := hb2'.frozen 2
      have c3 : w2.cell? ⟨b2, 2, none⟩ = some (.pointer px) := hb2'.link true
      have HM2 := hide hm2
      have HK2 := hide hk2
      have hbF2 : b2 ∉ F2 := fun h => hn2 (hF2 b2 h)
      have HHF := hide hF2
      have HBF := hide hbF2
      clear hb2' hm2 hk2 hbF2 hF2 hn2
      go_wp2
      refine bodyPost_ret (v := .pointer (some ⟨b2, 0, none⟩)) (by simp [results, Tryd.results37, go_sem]) rfl ⟨_, b2 :: (F2 ++ Fy), rfl, ?_, ?_, ?_⟩
      · rw [HZ.out]
        refine MR.mk ?_ HBF.out G2.out (fun i hi hi' => ?_) (HM2.out.set HBF.out) (((HY.out.kp kk1).kf HK2.out (fun i hi h => ?_)).set G2.out)
        · exact HBB.out.set (j := 2)
        · rcases HHF.out i hi with h | h
          · exact HD.out i h (by simp [hi'])
          · exact G3.out i h hi'
        · rcases h with h | h
          · exact HD.out i h (by simp [hi])
          · exact G3.out i h hi
      · intro i hi
        simp only [List.mem_cons, List.mem_append] at hi ⊢
        rcases hi with h | h | h
        · exact .inr (.inl h)
        · rcases HHF.out i h with h | h
          · simp only [List.mem_cons, List.mem_append] at h; exact .inl h
          · exact .inr (.inr (.inl h))
        · exact .inr (.inr (.inr h))
      · have h9 : Kf (fun i => i ∈ b :: (Fl ++ Fr) ∨ i ∈ b2 :: (Fx ++ Fy)) w w2 := (Kf.of kk1).trans HK2.out (fun i _ h => by
          rcases h with h | h
          · exact .inl h
          · exact .inr (by simp [h]))
        exact h9.set (.inl (.inr (by simp)))
  termination_by n => n
end Go.Proofs.YtfgbbmjnjppfnaaDoor
