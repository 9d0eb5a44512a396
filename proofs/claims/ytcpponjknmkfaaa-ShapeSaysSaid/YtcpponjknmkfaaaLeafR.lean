/-
  hedgref.Leaf: what it answers. Conditions: a tree that is read (TR).
-/
import Derived.Test.YtcpponjknmkfaaaTree
import Derived.Test.YtcpponjknmkfaaaMTree
namespace Go.Proofs.Ytcpponjknmkfaaa
open Go.ChangeShapes Go.WideShapes Go.ChangeAt Go.RowKit
set_option linter.unusedVariables false
set_option linter.unusedSimpArgs false

def leafT : T → Int → T
  | .nil, k => .node k .nil .nil
  | .node a l r, k => if k < a then .node a (leafT l k) r else if a < k then .node a l (leafT r k) else .node a l r
set_option maxRecDepth 100000 in
set_option maxHeartbeats 4000000 in
theorem leaf_any : ∀ (t : T) (p : Option Addr) (k : Int) (w : World), TR w t p → Calls Try.prog 16 #[.pointer p, .int .i64 k] w (RetTR (leafT t k) w)
  | .nil, p, k, w, h => by
    obtain rfl : p = none := h
    go_enter Try.func16, Try.ntmps16
    go_wp2
    go_ret
    exact ⟨_, rfl, TR.mk (l := .nil) (r := .nil) rfl rfl _, ((Kp.refl w).alloc).bel⟩
  | .node a l r, p, k, w, h => by
    obtain ⟨b, pl, pr, rfl, hb, c0, c1, c2, hl, hr⟩ := h
    have HL := hide hl
    have HR := hide hr
    have KS : Hid (∀ W', Kp w W' → (W'.cell? ⟨b, 0, none⟩ = some (.int .i64 a) ∧ W'.cell? ⟨b, 1, none⟩ = some (.pointer pl) ∧ W'.cell? ⟨b, 2, none⟩ = some (.pointer pr) ∧ Kp w W')) :=
      hide fun W' h => ⟨h.cell c0, h.cell c1, h.cell c2, h⟩
    have K0 := Kp.refl w
    by_cases h1 : k < a
    · have IH := hide (fun w h => leaf_any l pl k w h)
      have HF : Hid (leafT (.node a l r) k = .node a (leafT l k) r) := hide (by rw [leafT, if_pos h1])
      have d1 : decide (k < a) = true := by simp [h1]
      clear hl hr h1
      go_enter Try.func16, Try.ntmps16
      go_wp2_with fail
      go_region_held3 (fun w' => w'.cell? ⟨b, 0, none⟩ = some (.int .i64 a) ∧ w'.cell? ⟨b, 1, none⟩ = some (.pointer pl) ∧ w'.cell? ⟨b, 2, none⟩ = some (.pointer pr) ∧ Kp w w')
        ((go_split_ands; refine KS.out _ ?_; (focus ((repeat (first | (with_reducible assumption) | (with_reducible exact Kp.refl _) | (with_reducible apply Kp.drew) | (with_reducible apply Kp.drewN) | ((with_reducible apply Kp.setR); (focus (first | (with_reducible assumption) | (simp; done) | (simp; omega)))) | (with_reducible apply Kp.alloc) | ((with_reducible apply Kp.call); (with_reducible assumption)) | ((with_reducible apply Kp.app); (with_reducible assumption)))); done))))
        ((go_at_call_of 16 (Value.pointer pl); (with_reducible refine (IH.out _ (HL.out.kp ?_)).mono ?_); (go_split_ands; (focus ((repeat (first | (with_reducible assumption) | (with_reducible exact Kp.refl _) | (with_reducible apply Kp.drew) | (with_reducible apply Kp.drewN) | ((with_reducible apply Kp.setR); (focus (first | (with_reducible assumption) | (simp; done) | (simp; omega)))) | (with_reducible apply Kp.alloc) | ((with_reducible apply Kp.call); (with_reducible assumption)) | ((with_reducible apply Kp.app); (with_reducible assumption)))); done))); rintro e w1 ⟨p1, rfl, ht1, hb1⟩))
      all_goals
        go_wp2
        go_ret
        refine ⟨_, rfl, by rw [HF.out]; exact TR.mk (ht1.kp (by (focus ((repeat (first | (with_reducible assumption) | (with_reducible exact Kp.refl _) | (with_reducible apply Kp.drew) | (with_reducible apply Kp.drewN) | ((with_reducible apply Kp.setR); (focus (first | (with_reducible assumption) | (simp; done) | (simp; omega)))) | (with_reducible apply Kp.alloc) | ((with_reducible apply Kp.call); (with_reducible assumption)) | ((with_reducible apply Kp.app); (with_reducible assumption)))); done)))) (HR.out.kp (by (focus ((repeat (first | (with_reducible assumption) | (with_reducible exact Kp.refl _) | (with_reducible apply Kp.drew) | (with_reducible apply Kp.drewN) | ((with_reducible apply Kp.setR); (focus (first | (with_reducible assumption) | (simp; done) | (simp; omega)))) | (with_reducible apply Kp.alloc) | ((with_reducible apply Kp.call); (with_reducible assumption)) | ((with_reducible apply Kp.app); (with_reducible assumption)))); done)))) _, Kp.bel (by (focus ((repeat (first | (with_reducible assumption) | (with_reducible exact Kp.refl _) | (with_reducible apply Kp.drew) | (with_reducible apply Kp.drewN) | ((with_reducible apply Kp.setR); (focus (first | (with_reducible assumption) | (simp; done) | (simp; omega)))) | (with_reducible apply Kp.alloc) | ((with_reducible apply Kp.call); (with_reducible assumption)) | ((with_reducible apply Kp.app); (with_reducible assumption)))); done)))⟩
    · by_cases h2 : a < k
      · have IH := hide (fun w h => leaf_any r pr k w h)
        have HF : Hid (leafT (.node a l r) k = .node a l (leafT r k)) := hide (by rw [leafT, if_neg h1, if_pos h2])
        have d1 : decide (k < a) = false := by simp; omega
        have d2 : decide (a < k) = true := by simp [h2]
        clear hl hr h1 h2
        go_enter Try.func16, Try.ntmps16
        go_wp2_with fail
        go_region_held3 (fun w' => w'.cell? ⟨b, 0, none⟩ = some (.int .i64 a) ∧ w'.cell? ⟨b, 1, none⟩ = some (.pointer pl) ∧ w'.cell? ⟨b, 2, none⟩ = some (.pointer pr) ∧ Kp w w')
          ((go_split_ands; refine KS.out _ ?_; (focus ((repeat (first | (with_reducible assumption) | (with_reducible exact Kp.refl _) | (with_reducible apply Kp.drew) | (with_reducible apply Kp.drewN) | ((with_reducible apply Kp.setR); (focus (first | (with_reducible assumption) | (simp; done) | (simp; omega)))) | (with_reducible apply Kp.alloc) | ((with_reducible apply Kp.call); (with_reducible assumption)) | ((with_reducible apply Kp.app); (with_reducible assumption)))); done))))
          ((go_at_call_of 16 (Value.pointer pr); (with_reducible refine (IH.out _ (HR.out.kp ?_)).mono ?_); (go_split_ands; (focus ((repeat (first | (with_reducible assumption) | (with_reducible exact Kp.refl _) | (with_reducible apply Kp.drew) | (with_reducible apply Kp.drewN) | ((with_reducible apply Kp.setR); (focus (first | (with_reducible assumption) | (simp; done) | (simp; omega)))) | (with_reducible apply Kp.alloc) | ((with_reducible apply Kp.call); (with_reducible assumption)) | ((with_reducible apply Kp.app); (with_reducible assumption)))); done))); rintro e w1 ⟨p1, rfl, ht1, hb1⟩))
        all_goals
          go_wp2
          go_ret
          refine ⟨_, rfl, by rw [HF.out]; exact TR.mk (HL.out.kp (by (focus ((repeat (first | (with_reducible assumption) | (with_reducible exact Kp.refl _) | (with_reducible apply Kp.drew) | (with_reducible apply Kp.drewN) | ((with_reducible apply Kp.setR); (focus (first | (with_reducible assumption) | (simp; done) | (simp; omega)))) | (with_reducible apply Kp.alloc) | ((with_reducible apply Kp.call); (with_reducible assumption)) | ((with_reducible apply Kp.app); (with_reducible assumption)))); done)))) (ht1.kp (by (focus ((repeat (first | (with_reducible assumption) | (with_reducible exact Kp.refl _) | (with_reducible apply Kp.drew) | (with_reducible apply Kp.drewN) | ((with_reducible apply Kp.setR); (focus (first | (with_reducible assumption) | (simp; done) | (simp; omega)))) | (with_reducible apply Kp.alloc) | ((with_reducible apply Kp.call); (with_reducible assumption)) | ((with_reducible apply Kp.app); (with_reducible assumption)))); done)))) _, Kp.bel (by (focus ((repeat (first | (with_reducible assumption) | (with_reducible exact Kp.refl _) | (with_reducible apply Kp.drew) | (with_reducible apply Kp.drewN) | ((with_reducible apply Kp.setR); (focus (first | (with_reducible assumption) | (simp; done) | (simp; omega)))) | (with_reducible apply Kp.alloc) | ((with_reducible apply Kp.call); (with_reducible assumption)) | ((with_reducible apply Kp.app); (with_reducible assumption)))); done)))⟩
      · have HF : Hid (leafT (.node a l r) k = .node a l r) := hide (by rw [leafT, if_neg h1, if_neg h2])
        have d1 : decide (k < a) = false := by simp; omega
        have d2 : decide (a < k) = false := by simp; omega
        have HT : Hid (TR w (.node a l r) (some ⟨b, 0, none⟩)) := hide ⟨b, pl, pr, rfl, hb, c0, c1, c2, hl, hr⟩
        clear hl hr h1 h2
        go_enter Try.func16, Try.ntmps16
        go_wp2
        go_ret
        exact ⟨_, rfl, by rw [HF.out]; exact HT.out, Below.refl _ _⟩

end Go.Proofs.Ytcpponjknmkfaaa
