/-
  hedgref.builtAnew: what it answers
-/
import Derived.Test.YtcljlnagpjilaaaGreatDoorG38
import Derived.Test.YtcljlnagpjilaaaGreatDoorG28

set_option linter.unusedVariables false
set_option linter.unusedSimpArgs false
set_option maxRecDepth 100000
set_option maxHeartbeats 8000000
namespace Go.Proofs.YtcljlnagpjilaaaGreatDoor
open Go.ChangeShapes Go.WideShapes Go.ChangeAt Go.RowKit
def BaPost (r : MT IP × Nat × Bool) (w : World) (e : Ending) (w' : World) : Prop := ∃ p, e = .returned (.tuple #[.pointer p, .int .i64 (r.2.1 : Int), .bool r.2.2]) /\ TR w' (skel r.1) p /\ Below w.heap.size w w'
theorem builtAnew_any (t : MT IP) : ∀ (p : Option Addr) (k : Int) (w : World), TR w (skel t) p -> t.size <= 100000 -> Calls Tryz.prog 98 #[.pointer p, .int .i64 k] w (BaPost (fixT t k) w) := by
 induction t with
 | nil =>
  intro p k w h hs
  obtain rfl : p = none := h
  go_enter Tryz.func98, Tryz.ntmps98
  go_wp2
  go_ret3
  exact ⟨none, rfl, rfl, Below.refl _ _⟩
 | node a l r ihl ihr =>
  intro p k w h hs
  have HTN := hide h
  obtain ⟨b, pl, pr, rfl, hb, c0, c1, c2, hl, hr⟩ := h
  simp only [MT.size] at hs
  have HOL := hide (fun W h => inOrder_any (skel l) pl W h (by rw [skel_size]; omega))
  have HOR := hide (fun W h => inOrder_any (skel r) pr W h (by rw [skel_size]; omega))
  have HON := hide (fun W h => inOrder_any (skel (.node a l r)) (some ⟨b, 0, none⟩) W h (by rw [skel_size]; simp only [MT.size]; omega))
  have hnl : (ksT (skel l)).length = l.size := by rw [ksT_len, skel_size]
  have hnr : (ksT (skel r)).length = r.size := by rw [ksT_len, skel_size]
  have HNN : Hid ((ksT (skel (.node a l r))).length = l.size + 1 + r.size) := hide (by rw [ksT_len, skel_size]; rfl)
  obtain ⟨sa, hsa⟩ : ∃ x, x = l.size := ⟨_, rfl⟩
  obtain ⟨sb, hsb⟩ : ∃ x, x = r.size := ⟨_, rfl⟩
  have hle : leans l r = decide (2 * (sa + sb + 1) < 3 * max sa sb) := by unfold leans; rw [hsa, hsb]
  have HSB : Hid (l.size + 1 + r.size <= 100000) := hide hs
  rw [<- hsa] at hnl hs
  rw [<- hsb] at hnr hs
  obtain ⟨mx, hmx⟩ : ∃ x, x = max sa sb := ⟨_, rfl⟩
  have hMX : max (sa : Int) (sb : Int) = (mx : Int) := by omega
  have hmxb : mx <= 100000 := by omega
  obtain ⟨P, hP⟩ : ∃ x, x = 3 * mx := ⟨_, rfl⟩
  obtain ⟨Q, hQ⟩ : ∃ x, x = 2 * (sa + sb + 1) := ⟨_, rfl⟩
  rw [<- hmx, <- hP, <- hQ] at hle
  have v1 : IntKind.i64.wrap (3 * (mx : Int)) = (P : Int) := by rw [IntWalk.i64_in _ (by omega)]; omega
  have v2 : IntKind.i64.wrap ((sa : Int) + (sb : Int)) = (sa : Int) + (sb : Int) := IntWalk.i64_in _ (by omega)
  have v3 : IntKind.i64.wrap ((sa : Int) + (sb : Int) + 1) = (sa : Int) + (sb : Int) + 1 := IntWalk.i64_in _ (by omega)
  have v4 : IntKind.i64.wrap (2 * ((sa : Int) + (sb : Int) + 1)) = (Q : Int) := by rw [IntWalk.i64_in _ (by omega)]; omega
  have HSS : Hid (((l.size + r.size + 1 : Nat) : Int) = (sa : Int) + (sb : Int) + 1) := hide (by rw [hsa, hsb]; omega)
  have HLE := hide hle
  have HTL := hide hl
  have HTR := hide hr
  have HIL := hide (ihl pl k)
  have HIR := hide (ihr pr k)
  have KS : Hid (∀ W', Kp w W' -> (W'.cell? ⟨b, 0, none⟩ = some (.int .i64 a.1) /\ W'.cell? ⟨b, 1, none⟩ = some (.pointer pl) /\ W'.cell? ⟨b, 2, none⟩ = some (.pointer pr) /\ Kp w W')) :=
   hide fun W' h => ⟨h.cell c0, h.cell c1, h.cell c2, h⟩
  have HLB : Hid (l.size <= 100000 /\ r.size <= 100000) := hide (by rw [<- hsa, <- hsb]; omega)
  clear ihl ihr hl hr hle hsa hsb hmx hmxb hP hQ hs
  rcases Int.lt_trichotomy k a.1 with hlt | heq | hgt
  ·have e1 : (a.1 == k) = false := by simp; omega
   have d1 : decide (k < a.1) = true := decide_eq_true hlt
   have hne : ¬ k = a.1 := by omega
   cases hf : (fixT l k).2.2 with
   | true =>
    have HF : Hid (fixT (.node a l r) k = (.node a (fixT l k).1 r, (fixT l k).2.1, true)) := hide (by rw [fixT, if_neg hne, if_pos hlt, if_pos hf])
    have HI := hide (HIL.out w HTL.out HLB.out.1)
    obtain ⟨R, hR⟩ : ∃ R, R = fixT l k := ⟨_, rfl⟩
    rw [<- hR] at HI HF hf
    obtain ⟨R1, R2, R3⟩ := R
    simp only at hf HF
    subst hf
    clear hR hne hlt
    go_enter Tryz.func98, Tryz.ntmps98
    go_wp2_with fail
    with_reducible refine HI.out.mono ?_
    rintro e w1 ⟨p1, rfl, ht1, hb1⟩
    have kk1 := Kp.of hb1
    have HT1 := hide ht1
    have K1 := Kp.refl w1
    have KS2 : Hid (∀ W', Kp w1 W' -> (W'.cell? ⟨b, 0, none⟩ = some (.int .i64 a.1) /\ W'.cell? ⟨b, 1, none⟩ = some (.pointer pl) /\ W'.cell? ⟨b, 2, none⟩ = some (.pointer pr) /\ Kp w1 W')) :=
     hide fun W' h => ⟨h.cell (kk1.cell c0), h.cell (kk1.cell c1), h.cell (kk1.cell c2), h⟩
    clear ht1 hb1
    go_wp2_with fail
    go_region_held3 (fun w' => w'.cell? ⟨b, 0, none⟩ = some (.int .i64 a.1) /\ w'.cell? ⟨b, 1, none⟩ = some (.pointer pl) /\ w'.cell? ⟨b, 2, none⟩ = some (.pointer pr) /\ Kp w1 w')
     ((go_split_ands; refine KS2.out _ ?_; (exact Kp.auto)))
     (fail)
    all_goals
     go_wp2
     go_ret3
     exact ⟨_, by rw [HF.out]; rfl, by rw [HF.out]; exact TR.kp (t := .node a.1 (skel R1) (skel r)) (TR.mk HT1.out (HTR.out.kp kk1) _) (Kp.refl _).drew, (kk1.trans (by (exact Kp.auto))).bel⟩
   | false =>
    have HFX : Hid ((leans l r = true -> fixT (.node a l r) k = (evenT (kM (.node a l r)), l.size + r.size + 1, true)) /\ (leans l r = false -> fixT (.node a l r) k = (.node a l r, 0, false))) := hide (by
     rw [fixT, if_neg hne, if_pos hlt, if_neg (by simp [hf])]
     exact ⟨fun h => by rw [if_pos h], fun h => by rw [if_neg (by simp [h])]⟩)
    have HI := hide (HIL.out w HTL.out HLB.out.1)
    obtain ⟨R, hR⟩ : ∃ R, R = fixT l k := ⟨_, rfl⟩
    rw [<- hR] at HI hf
    obtain ⟨R1, R2, R3⟩ := R
    simp only at hf
    subst hf
    clear hR hne hlt
    go_enter Tryz.func98, Tryz.ntmps98
    go_wp2_with fail
    with_reducible refine HI.out.mono ?_
    rintro e w1 ⟨p1, rfl, ht1, hb1⟩
    have kk1 := Kp.of hb1
    clear ht1 hb1
    have KS2 : Hid (∀ W', Kp w1 W' -> (W'.cell? ⟨b, 0, none⟩ = some (.int .i64 a.1) /\ W'.cell? ⟨b, 1, none⟩ = some (.pointer pl) /\ W'.cell? ⟨b, 2, none⟩ = some (.pointer pr) /\ Kp w1 W')) :=
     hide fun W' h => ⟨h.cell (kk1.cell c0), h.cell (kk1.cell c1), h.cell (kk1.cell c2), h⟩
    have K2 := Kp.refl w1
    go_wp2_with fail
    go_region_held3 (fun w' => w'.cell? ⟨b, 0, none⟩ = some (.int .i64 a.1) /\ w'.cell? ⟨b, 1, none⟩ = some (.pointer pl) /\ w'.cell? ⟨b, 2, none⟩ = some (.pointer pr) /\ Kp w1 w')
     ((go_split_ands; refine KS2.out _ ?_; (exact Kp.auto)))
     (first
      | (go_at_call_of 95 (Value.pointer pl); (with_reducible refine (HOL.out _ (HTL.out.kp (kk1.trans ?_))).mono ?_); (go_split_ands; (exact Kp.auto)); rintro e w7 ⟨v7, rfl, ho7, hb7⟩; obtain ⟨X7, Y7, rfl, _, _⟩ := ho7.rd.shape)
      | (go_at_call_of 95 (Value.pointer pr); (with_reducible refine (HOR.out _ (HTR.out.kp (kk1.trans ?_))).mono ?_); (go_split_ands; (exact Kp.auto)); rintro e w8 ⟨v8, rfl, ho8, hb8⟩; obtain ⟨X8, Y8, rfl, _, _⟩ := ho8.rd.shape))
    have kk8 : Kp w1 w8 := by (go_split_ands; (exact Kp.auto))
    obtain ⟨W8, hW8⟩ : ∃ W8, W8 = w8 := ⟨_, rfl⟩
    by_cases hln : Q < P
    ·have d9 : decide (Q < P) = true := decide_eq_true hln
     have HF : Hid (fixT (.node a l r) k = (evenT (kM (.node a l r)), l.size + r.size + 1, true)) := hide (HFX.out.1 (by rw [HLE.out]; exact d9))
     have HX := hide (kk1.trans kk8)
     clear hln
     go_wp2_with fail
     with_reducible refine (HON.out _ (HTN.out.kp HX.out)).mono ?_
     rintro e w9 ⟨v9, rfl, ho9, hb9⟩
     have kk9 := Kp.of hb9
     have HE9 := hide (evenTree_any (ksT (skel (.node a l r))).length _ v9 w9 (Nat.le_refl _) (by rw [HNN.out]; have := HSB.out; omega) ho9.rd)
     clear ho9 hb9
     go_wp2_with fail
     with_reducible refine HE9.out.mono ?_
     rintro e w10 ⟨p10, rfl, ht10, hb10⟩
     have HT10 := hide ht10
     have kk10 := Kp.of hb10
     clear ht10 hb10
     go_wp2
     go_ret3
     exact ⟨p10, by rw [HF.out]; simp only; rw [HSS.out]; rfl, by rw [HF.out]; have h := HT10.out; rw [ksT_skel] at h; exact h, (HX.out.trans (kk9.trans kk10)).bel⟩
    ·have d9 : decide (Q < P) = false := decide_eq_false hln
     have HF : Hid (fixT (.node a l r) k = (.node a l r, 0, false)) := hide (HFX.out.2 (by rw [HLE.out]; exact d9))
     have HX := hide (kk1.trans kk8)
     clear hln
     go_wp2
     go_ret3
     exact ⟨_, by rw [HF.out]; rfl, by rw [HF.out]; exact HTN.out.kp HX.out, HX.out.bel⟩
  ·have e1 : (a.1 == k) = true := by simp [heq]
   have HF : Hid (fixT (.node a l r) k = (.node a l r, 0, false)) := hide (by rw [fixT, if_pos heq])
   clear heq
   go_enter Tryz.func98, Tryz.ntmps98
   go_wp2
   go_ret3
   exact ⟨_, by rw [HF.out]; rfl, by rw [HF.out]; exact HTN.out, Below.refl _ _⟩
  ·have e1 : (a.1 == k) = false := by simp; omega
   have d1 : decide (k < a.1) = false := decide_eq_false (by omega)
   have hne : ¬ k = a.1 := by omega
   have hnl2 : ¬ k < a.1 := by omega
   cases hf : (fixT r k).2.2 with
   | true =>
    have HF : Hid (fixT (.node a l r) k = (.node a l (fixT r k).1, (fixT r k).2.1, true)) := hide (by rw [fixT, if_neg hne, if_neg hnl2, if_pos hf])
    have HI := hide (HIR.out w HTR.out HLB.out.2)
    obtain ⟨R, hR⟩ : ∃ R, R = fixT r k := ⟨_, rfl⟩
    rw [<- hR] at HI HF hf
    obtain ⟨R1, R2, R3⟩ := R
    simp only at hf HF
    subst hf
    clear hR hne hnl2 hgt
    go_enter Tryz.func98, Tryz.ntmps98
    go_wp2_with fail
    with_reducible refine HI.out.mono ?_
    rintro e w1 ⟨p1, rfl, ht1, hb1⟩
    have kk1 := Kp.of hb1
    have HT1 := hide ht1
    have K1 := Kp.refl w1
    have KS2 : Hid (∀ W', Kp w1 W' -> (W'.cell? ⟨b, 0, none⟩ = some (.int .i64 a.1) /\ W'.cell? ⟨b, 1, none⟩ = some (.pointer pl) /\ W'.cell? ⟨b, 2, none⟩ = some (.pointer pr) /\ Kp w1 W')) :=
     hide fun W' h => ⟨h.cell (kk1.cell c0), h.cell (kk1.cell c1), h.cell (kk1.cell c2), h⟩
    clear ht1 hb1
    go_wp2_with fail
    go_region_held3 (fun w' => w'.cell? ⟨b, 0, none⟩ = some (.int .i64 a.1) /\ w'.cell? ⟨b, 1, none⟩ = some (.pointer pl) /\ w'.cell? ⟨b, 2, none⟩ = some (.pointer pr) /\ Kp w1 w')
     ((go_split_ands; refine KS2.out _ ?_; (exact Kp.auto)))
     (fail)
    all_goals
     go_wp2
     go_ret3
     exact ⟨_, by rw [HF.out]; rfl, by rw [HF.out]; exact TR.kp (t := .node a.1 (skel l) (skel R1)) (TR.mk (HTL.out.kp kk1) HT1.out _) (Kp.refl _).drew, (kk1.trans (by (exact Kp.auto))).bel⟩
   | false =>
    have HFX : Hid ((leans l r = true -> fixT (.node a l r) k = (evenT (kM (.node a l r)), l.size + r.size + 1, true)) /\ (leans l r = false -> fixT (.node a l r) k = (.node a l r, 0, false))) := hide (by
     rw [fixT, if_neg hne, if_neg hnl2, if_neg (by simp [hf])]
     exact ⟨fun h => by rw [if_pos h], fun h => by rw [if_neg (by simp [h])]⟩)
    have HI := hide (HIR.out w HTR.out HLB.out.2)
    obtain ⟨R, hR⟩ : ∃ R, R = fixT r k := ⟨_, rfl⟩
    rw [<- hR] at HI hf
    obtain ⟨R1, R2, R3⟩ := R
    simp only at hf
    subst hf
    clear hR hne hnl2 hgt
    go_enter Tryz.func98, Tryz.ntmps98
    go_wp2_with fail
    with_reducible refine HI.out.mono ?_
    rintro e w1 ⟨p1, rfl, ht1, hb1⟩
    have kk1 := Kp.of hb1
    clear ht1 hb1
    have KS2 : Hid (∀ W', Kp w1 W' -> (W'.cell? ⟨b, 0, none⟩ = some (.int .i64 a.1) /\ W'.cell? ⟨b, 1, none⟩ = some (.pointer pl) /\ W'.cell? ⟨b, 2, none⟩ = some (.pointer pr) /\ Kp w1 W')) :=
     hide fun W' h => ⟨h.cell (kk1.cell c0), h.cell (kk1.cell c1), h.cell (kk1.cell c2), h⟩
    have K2 := Kp.refl w1
    go_wp2_with fail
    go_region_held3 (fun w' => w'.cell? ⟨b, 0, none⟩ = some (.int .i64 a.1) /\ w'.cell? ⟨b, 1, none⟩ = some (.pointer pl) /\ w'.cell? ⟨b, 2, none⟩ = some (.pointer pr) /\ Kp w1 w')
     ((go_split_ands; refine KS2.out _ ?_; (exact Kp.auto)))
     (first
      | (go_at_call_of 95 (Value.pointer pl); (with_reducible refine (HOL.out _ (HTL.out.kp (kk1.trans ?_))).mono ?_); (go_split_ands; (exact Kp.auto)); rintro e w7 ⟨v7, rfl, ho7, hb7⟩; obtain ⟨X7, Y7, rfl, _, _⟩ := ho7.rd.shape)
      | (go_at_call_of 95 (Value.pointer pr); (with_reducible refine (HOR.out _ (HTR.out.kp (kk1.trans ?_))).mono ?_); (go_split_ands; (exact Kp.auto)); rintro e w8 ⟨v8, rfl, ho8, hb8⟩; obtain ⟨X8, Y8, rfl, _, _⟩ := ho8.rd.shape))
    have kk8 : Kp w1 w8 := by (go_split_ands; (exact Kp.auto))
    obtain ⟨W8, hW8⟩ : ∃ W8, W8 = w8 := ⟨_, rfl⟩
    by_cases hln : Q < P
    ·have d9 : decide (Q < P) = true := decide_eq_true hln
     have HF : Hid (fixT (.node a l r) k = (evenT (kM (.node a l r)), l.size + r.size + 1, true)) := hide (HFX.out.1 (by rw [HLE.out]; exact d9))
     have HX := hide (kk1.trans kk8)
     clear hln
     go_wp2_with fail
     with_reducible refine (HON.out _ (HTN.out.kp HX.out)).mono ?_
     rintro e w9 ⟨v9, rfl, ho9, hb9⟩
     have kk9 := Kp.of hb9
     have HE9 := hide (evenTree_any (ksT (skel (.node a l r))).length _ v9 w9 (Nat.le_refl _) (by rw [HNN.out]; have := HSB.out; omega) ho9.rd)
     clear ho9 hb9
     go_wp2_with fail
     with_reducible refine HE9.out.mono ?_
     rintro e w10 ⟨p10, rfl, ht10, hb10⟩
     have HT10 := hide ht10
     have kk10 := Kp.of hb10
     clear ht10 hb10
     go_wp2
     go_ret3
     exact ⟨p10, by rw [HF.out]; simp only; rw [HSS.out]; rfl, by rw [HF.out]; have h := HT10.out; rw [ksT_skel] at h; exact h, (HX.out.trans (kk9.trans kk10)).bel⟩
    ·have d9 : decide (Q < P) = false := decide_eq_false hln
     have HF : Hid (fixT (.node a l r) k = (.node a l r, 0, false)) := hide (HFX.out.2 (by rw [HLE.out]; exact d9))
     have HX := hide (kk1.trans kk8)
     clear hln
     go_wp2
     go_ret3
     exact ⟨_, by rw [HF.out]; rfl, by rw [HF.out]; exact HTN.out.kp HX.out, HX.out.bel⟩
end Go.Proofs.YtcljlnagpjilaaaGreatDoor
