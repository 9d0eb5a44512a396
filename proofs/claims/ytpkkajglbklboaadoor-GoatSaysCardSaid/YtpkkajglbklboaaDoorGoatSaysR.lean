/-
  hedgref.Leaf: what it answers. Conditions: a tree that is read (TR).
  hedgref.Least, hedgref.Unleafed: what they answer. Conditions: a tree that is read (TR).
  The document's trees are the packages' trees without values. No program. Conditions: none.
  hedgref.EvenTree, inOrder, depthIn, DeepestOf: what they answer. Conditions: the list reads as l (RD); a tree that is read (TR).
  hedgref.DeepestOf, builtAnew: what they answer. Conditions: a tree that is read (TR), its keys in order.
  hedgref.builtAnew: what it answers. Conditions: a tree that is read (TR).
  hedgref.Goated: what it answers. Conditions: the ops read as ops, the answers as those of the plain list (RD).
  Keys that are right: few, rising, in bounds. No program. Conditions: none.
  slices.Equal at answers: of two that read as one list it answers true. Conditions: both read as l (RD).
  hedglaw.GoatSays: the walk: it answers true. Conditions: the keys read as ints, the ops as ops (RD), the table (DTb).
  hedglaw.GoatSays: THE STATEMENT: for every input it answers true. Conditions: the table of math/bits holds what the program's text lays (tied on the card).
-/
import Derived.Test.YtpkkajglbklboaaDoorG26
import Derived.Test.YtpkkajglbklboaaDoorG2
import Derived.Test.YtpkkajglbklboaaDoorG13
import Derived.Test.YtpkkajglbklboaaDoorG15
import Derived.Lib.MinMax
import Derived.Test.YtpkkajglbklboaaDoorG14
import Derived.Test.YtpkkajglbklboaaDoorG7
import Derived.Test.YtpkkajglbklboaaDoorG25
import Derived.Test.YtpkkajglbklboaaDoorG1
import Derived.Test.YtpkkajglbklboaaDoorG11
import Derived.Test.YtpkkajglbklboaaDoorG12
import Derived.Deep.DeepCutAuto
import Derived.Test.YtpkkajglbklboaaDoorCards
import Derived.Test.YtpkkajglbklboaaDoorTie
import Derived.SevenTiedAt

namespace Go.Proofs.YtpkkajglbklboaaDoor
open Go.ChangeShapes Go.WideShapes Go.ChangeAt Go.RowKit
set_option linter.unusedVariables false
set_option linter.unusedSimpArgs false

def leafT : T → Int → T
  | .nil, k => .node k .nil .nil
  | .node a l r, k => if k < a then .node a (leafT l k) r else if a < k then .node a l (leafT r k) else .node a l r
set_option maxRecDepth 100000 in
set_option maxHeartbeats 4000000 in
theorem leaf_any : ∀ (t : T) (p : Option Addr) (k : Int) (w : World), TR w t p → Calls Tryd.prog 39 #[.pointer p, .int .i64 k] w (RetTR (leafT t k) w)
  | .nil, p, k, w, h => by
    obtain rfl : p = none := h
    go_enter Tryd.func39, Tryd.ntmps39
    go_wp2
    go_ret
    exact ⟨_, rfl, TR.mk (l := .nil) (r := .nil) rfl rfl _, ((Kp.refl w).alloc).bel⟩
  | .node a l r, p, k, w, h => by
    obtain ⟨b, pl, pr, rfl, hb, c0, c1, c2, hl, hr⟩ := h
    have HL := hide hl
    have HR := hide hr
    have KS : Hid (∀ W', Kp w W' → (W'.cell? ⟨b, 0, none⟩ = some (.int .i64 a) ∧ W'.cell? ⟨b, 1, none⟩ = some (.pointer pl) ∧ W'.cell? ⟨b, 2, none⟩ = some (.pointer pr) ∧ Kp w W')) :=
      hide fun W' h => ⟨h.cell c0, h.cell c1, h.cell c2, h⟩
    have K0 := Kp.refl w
    by_cases h1 : k < a
    · have IH := hide (fun w h => leaf_any l pl k w h)
      have HF : Hid (leafT (.node a l r) k = .node a (leafT l k) r) := hide (by rw [leafT, if_pos h1])
      have d1 : decide (k < a) = true := by simp [h1]
      clear hl hr h1
      go_enter Tryd.func39, Tryd.ntmps39
      go_wp2_with fail
      go_region_held3 (fun w' => w'.cell? ⟨b, 0, none⟩ = some (.int .i64 a) ∧ w'.cell? ⟨b, 1, none⟩ = some (.pointer pl) ∧ w'.cell? ⟨b, 2, none⟩ = some (.pointer pr) ∧ Kp w w')
        ((go_split_ands; refine KS.out _ ?_; (focus ((repeat (first | (with_reducible assumption) | (with_reducible exact Kp.refl _) | (with_reducible apply Kp.drew) | (with_reducible apply Kp.drewN) | ((with_reducible apply Kp.setR); (focus (first | (with_reducible assumption) | (simp; done) | (simp; omega)))) | (with_reducible apply Kp.alloc) | ((with_reducible apply Kp.call); (with_reducible assumption)) | ((with_reducible apply Kp.app); (with_reducible assumption)))); done))))
        ((go_at_call_of 39 (Value.pointer pl); (with_reducible refine (IH.out _ (HL.out.kp ?_)).mono ?_); (go_split_ands; (focus ((repeat (first | (with_reducible assumption) | (with_reducible exact Kp.refl _) | (with_reducible apply Kp.drew) | (with_reducible apply Kp.drewN) | ((with_reducible apply Kp.setR); (focus (first | (with_reducible assumption) | (simp; done) | (simp; omega)))) | (with_reducible apply Kp.alloc) | ((with_reducible apply Kp.call); (with_reducible assumption)) | ((with_reducible apply Kp.app); (with_reducible assumption)))); done))); rintro e w1 ⟨p1, rfl, ht1, hb1⟩))
      all_goals
        go_wp2
        go_ret
        refine ⟨_, rfl, by rw [HF.out]; exact TR.mk (ht1.kp (by (focus ((repeat (first | (with_reducible assumption) | (with_reducible exact Kp.refl _) | (with_reducible apply Kp.drew) | (with_reducible apply Kp.drewN) | ((with_reducible apply Kp.setR); (focus (first | (with_reducible assumption) | (simp; done) | (simp; omega)))) | (with_reducible apply Kp.alloc) | ((with_reducible apply Kp.call); (with_reducible assumption)) | ((with_reducible apply Kp.app); (with_reducible assumption)))); done)))) (HR.out.kp (by (focus ((repeat (first | (with_reducible assumption) | (with_reducible exact Kp.refl _) | (with_reducible apply Kp.drew) | (with_reducible apply Kp.drewN) | ((with_reducible apply Kp.setR); (focus (first | (with_reducible assumption) | (simp; done) | (simp; omega)))) | (with_reducible apply Kp.alloc) | ((with_reducible apply Kp.call); (with_reducible assumption)) | ((with_reducible apply Kp.app); (with_reducible assumption)))); done)))) _, Kp.bel (by (focus ((repeat (first | (with_reducible assumption) | (with_reducible exact Kp.refl _) | (with_reducible apply Kp.drew) | (with_reducible apply Kp.drewN) | ((with_reducible apply Kp.setR); (focus (first | (with_reducible assumption) | (simp; done) | (simp; omega)))) | (with_reducible apply Kp.alloc) | ((with_reducible apply Kp.call); (with_reducible assumption)) | ((with_reducible apply Kp.app); (with_reducible assumption)))); done)))⟩
    · by_cases h2 : a < k
      · have IH := hide (fun w h => leaf_any r pr k w h)
        have HF : Hid (leafT (.node a l r) k = .node a l (leafT r k)) := hide (by rw [leafT, if_neg h1, if_pos h2])
        have d1 : decide (k < a) = false := by simp; omega
        have d2 : decide (a < k) = true := by simp [h2]
        clear hl hr h1 h2
        go_enter Tryd.func39, Tryd.ntmps39
        go_wp2_with fail
        go_region_held3 (fun w' => w'.cell? ⟨b, 0, none⟩ = some (.int .i64 a) ∧ w'.cell? ⟨b, 1, none⟩ = some (.pointer pl) ∧ w'.cell? ⟨b, 2, none⟩ = some (.pointer pr) ∧ Kp w w')
          ((go_split_ands; refine KS.out _ ?_; (focus ((repeat (first | (with_reducible assumption) | (with_reducible exact Kp.refl _) | (with_reducible apply Kp.drew) | (with_reducible apply Kp.drewN) | ((with_reducible apply Kp.setR); (focus (first | (with_reducible assumption) | (simp; done) | (simp; omega)))) | (with_reducible apply Kp.alloc) | ((with_reducible apply Kp.call); (with_reducible assumption)) | ((with_reducible apply Kp.app); (with_reducible assumption)))); done))))
          ((go_at_call_of 39 (Value.pointer pr); (with_reducible refine (IH.out _ (HR.out.kp ?_)).mono ?_); (go_split_ands; (focus ((repeat (first | (with_reducible assumption) | (with_reducible exact Kp.refl _) | (with_reducible apply Kp.drew) | (with_reducible apply Kp.drewN) | ((with_reducible apply Kp.setR); (focus (first | (with_reducible assumption) | (simp; done) | (simp; omega)))) | (with_reducible apply Kp.alloc) | ((with_reducible apply Kp.call); (with_reducible assumption)) | ((with_reducible apply Kp.app); (with_reducible assumption)))); done))); rintro e w1 ⟨p1, rfl, ht1, hb1⟩))
        all_goals
          go_wp2
          go_ret
          refine ⟨_, rfl, by rw [HF.out]; exact TR.mk (HL.out.kp (by (focus ((repeat (first | (with_reducible assumption) | (with_reducible exact Kp.refl _) | (with_reducible apply Kp.drew) | (with_reducible apply Kp.drewN) | ((with_reducible apply Kp.setR); (focus (first | (with_reducible assumption) | (simp; done) | (simp; omega)))) | (with_reducible apply Kp.alloc) | ((with_reducible apply Kp.call); (with_reducible assumption)) | ((with_reducible apply Kp.app); (with_reducible assumption)))); done)))) (ht1.kp (by (focus ((repeat (first | (with_reducible assumption) | (with_reducible exact Kp.refl _) | (with_reducible apply Kp.drew) | (with_reducible apply Kp.drewN) | ((with_reducible apply Kp.setR); (focus (first | (with_reducible assumption) | (simp; done) | (simp; omega)))) | (with_reducible apply Kp.alloc) | ((with_reducible apply Kp.call); (with_reducible assumption)) | ((with_reducible apply Kp.app); (with_reducible assumption)))); done)))) _, Kp.bel (by (focus ((repeat (first | (with_reducible assumption) | (with_reducible exact Kp.refl _) | (with_reducible apply Kp.drew) | (with_reducible apply Kp.drewN) | ((with_reducible apply Kp.setR); (focus (first | (with_reducible assumption) | (simp; done) | (simp; omega)))) | (with_reducible apply Kp.alloc) | ((with_reducible apply Kp.call); (with_reducible assumption)) | ((with_reducible apply Kp.app); (with_reducible assumption)))); done)))⟩
      · have HF : Hid (leafT (.node a l r) k = .node a l r) := hide (by rw [leafT, if_neg h1, if_neg h2])
        have d1 : decide (k < a) = false := by simp; omega
        have d2 : decide (a < k) = false := by simp; omega
        have HT : Hid (TR w (.node a l r) (some ⟨b, 0, none⟩)) := hide ⟨b, pl, pr, rfl, hb, c0, c1, c2, hl, hr⟩
        clear hl hr h1 h2
        go_enter Tryd.func39, Tryd.ntmps39
        go_wp2
        go_ret
        exact ⟨_, rfl, by rw [HF.out]; exact HT.out, Below.refl _ _⟩

end Go.Proofs.YtpkkajglbklboaaDoor
namespace Go.Proofs.YtpkkajglbklboaaDoor
open Go.ChangeShapes Go.WideShapes Go.ChangeAt Go.RowKit
set_option linter.unusedVariables false
set_option linter.unusedSimpArgs false

def leastT : T → Int
  | .nil => 0
  | .node a .nil _ => a
  | .node _ (.node b x y) _ => leastT (.node b x y)
def T.isN : T → Bool
  | .nil => true
  | .node _ _ _ => false
def unlT : T → Int → T
  | .nil, _ => .nil
  | .node a l r, k => if k < a then .node a (unlT l k) r else if a < k then .node a l (unlT r k) else if l.isN then r else if r.isN then l else .node (leastT r) l (unlT r (leastT r))
theorem TR.uniq {w : World} : ∀ {t t' : T} {p : Option Addr}, TR w t p → TR w t' p → t = t'
  | .nil, .nil, _, _, _ => rfl
  | .nil, .node _ _ _, p, h, h' => by obtain ⟨b, pl, pr, e, _⟩ := h'; have h : p = none := h; rw [h] at e; cases e
  | .node _ _ _, .nil, p, h, h' => by obtain ⟨b, pl, pr, e, _⟩ := h; have h' : p = none := h'; rw [h'] at e; cases e
  | .node a l r, .node a' l' r', p, h, h' => by
    obtain ⟨b, pl, pr, rfl, _, c0, c1, c2, hl, hr⟩ := h
    obtain ⟨b', pl', pr', e, _, c0', c1', c2', hl', hr'⟩ := h'
    injection e with e
    injection e with e
    subst e
    rw [c0] at c0'; rw [c1] at c1'; rw [c2] at c2'
    injection c0' with c0'; injection c0' with _ c0'
    injection c1' with c1'; injection c1' with c1'
    injection c2' with c2'; injection c2' with c2'
    subst c0' c1' c2'
    rw [TR.uniq hl hl', TR.uniq hr hr']
noncomputable def szT (v : Value) (w : World) : Nat := by
  classical
  exact if h : ∃ (t : T) (p : Option Addr), v = .pointer p ∧ TR w t p then h.choose.size else 0
theorem szT_eq {w : World} {t : T} {p : Option Addr} (hm : TR w t p) : szT (.pointer p) w = t.size := by
  unfold szT
  have h : ∃ (t : T) (p' : Option Addr), Value.pointer p = .pointer p' ∧ TR w t p' := ⟨t, p, rfl, hm⟩
  rw [dif_pos h]
  obtain ⟨p', h1, h2⟩ := h.choose_spec
  generalize h.choose = t' at h2
  injection h1 with h1
  subst h1
  rw [TR.uniq h2 hm]
theorem TR.isN {w : World} {t : T} {p : Option Addr} (h : TR w t p) : (p == none) = t.isN := by
  cases t with
  | nil => have h : p = none := h; subst h; rfl
  | node a l r => obtain ⟨b, pl, pr, rfl, _⟩ := h; rfl

def LeRel (m : Int) (w : World) (v : Value) (wr : World) : Prop := ∃ t p, v = .pointer p ∧ TR wr t p ∧ t.isN = false ∧ leastT t = m ∧ w = wr
set_option maxRecDepth 100000 in
set_option maxHeartbeats 1000000 in
theorem least_ref_any (t : T) (p : Option Addr) (w : World) (h : TR w t p) (hn : t.isN = false) : Calls Tryd.prog 56 #[.pointer p] w (Ret (.int .i64 (leastT t)) w) := by
  have H := hide h
  have HN := hide hn
  clear h hn
  go_enter Tryd.func56, Tryd.ntmps56
  go_wp2
  go_loopw [0] (LeRel (leastT t) w) (fun v wr => szT v wr)
  case atStart => exact ⟨t, p, rfl, H.out, HN.out, rfl, rfl⟩
  case round =>
    obtain ⟨t1, p1, rfl, ht, hn, hl, rfl⟩ := hrel
    have HM := hide (szT_eq ht)
    cases t1 with
    | nil => cases hn
    | node a l r =>
      obtain ⟨b, pl, pr, rfl, hb, c0, c1, c2, hl1, hr1⟩ := ht
      cases l with
      | nil =>
        obtain rfl : pl = none := hl1
        have hl2 : a = leastT t := hl
        go_wp2
        go_ret
        exact ⟨rfl, Below.refl _ _⟩
      | node c x y =>
        obtain ⟨b2, px, py, rfl, hb2, d0, d1, d2, hx, hy⟩ := hl1
        have HT2 : Hid (TR w (.node c x y) (some ⟨b2, 0, none⟩)) := hide ⟨b2, px, py, rfl, hb2, d0, d1, d2, hx, hy⟩
        have HL2 : Hid (leastT (.node c x y) = leastT t) := hide (by rw [← hl, leastT])
        clear hl hx hy hr1
        go_wp2
        go_roundw
        case rel => exact ⟨_, _, rfl, HT2.out, rfl, HL2.out, rfl⟩
        case measure => rw [HM.out, szT_eq HT2.out]; simp only [T.size]; omega

set_option maxRecDepth 100000 in
set_option maxHeartbeats 8000000 in
theorem unl_any : ∀ (t : T) (p : Option Addr) (k : Int) (w : World), TR w t p → Calls Tryd.prog 43 #[.pointer p, .int .i64 k] w (RetTR (unlT t k) w)
  | .nil, p, k, w, h => by
    obtain rfl : p = none := h
    go_enter Tryd.func43, Tryd.ntmps43
    go_wp2
    go_ret
    exact ⟨none, rfl, rfl, Below.refl _ _⟩
  | .node a l r, p, k, w, h => by
    obtain ⟨b, pl, pr, rfl, hb, c0, c1, c2, hl, hr⟩ := h
    have HL := hide hl
    have HR := hide hr
    have KS : Hid (∀ W', Kp w W' → (W'.cell? ⟨b, 0, none⟩ = some (.int .i64 a) ∧ W'.cell? ⟨b, 1, none⟩ = some (.pointer pl) ∧ W'.cell? ⟨b, 2, none⟩ = some (.pointer pr) ∧ Kp w W')) :=
      hide fun W' h => ⟨h.cell c0, h.cell c1, h.cell c2, h⟩
    have K0 := Kp.refl w
    by_cases h1 : k < a
    · have IH := hide (fun w h => unl_any l pl k w h)
      have HF : Hid (unlT (.node a l r) k = .node a (unlT l k) r) := hide (by rw [unlT, if_pos h1])
      have d1 : decide (k < a) = true := by simp [h1]
      clear hl hr h1
      go_enter Tryd.func43, Tryd.ntmps43
      go_wp2_with fail
      go_region_held3 (fun w' => w'.cell? ⟨b, 0, none⟩ = some (.int .i64 a) ∧ w'.cell? ⟨b, 1, none⟩ = some (.pointer pl) ∧ w'.cell? ⟨b, 2, none⟩ = some (.pointer pr) ∧ Kp w w')
        ((go_split_ands; refine KS.out _ ?_; (focus ((repeat (first | (with_reducible assumption) | (with_reducible exact Kp.refl _) | (with_reducible apply Kp.drew) | (with_reducible apply Kp.drewN) | ((with_reducible apply Kp.setR); (focus (first | (with_reducible assumption) | (simp; done) | (simp; omega)))) | (with_reducible apply Kp.alloc) | ((with_reducible apply Kp.call); (with_reducible assumption)) | ((with_reducible apply Kp.app); (with_reducible assumption)))); done))))
        ((go_at_call_of 43 (Value.pointer pl); (with_reducible refine (IH.out _ (HL.out.kp ?_)).mono ?_); (go_split_ands; (focus ((repeat (first | (with_reducible assumption) | (with_reducible exact Kp.refl _) | (with_reducible apply Kp.drew) | (with_reducible apply Kp.drewN) | ((with_reducible apply Kp.setR); (focus (first | (with_reducible assumption) | (simp; done) | (simp; omega)))) | (with_reducible apply Kp.alloc) | ((with_reducible apply Kp.call); (with_reducible assumption)) | ((with_reducible apply Kp.app); (with_reducible assumption)))); done))); rintro e w1 ⟨p1, rfl, ht1, hb1⟩))
      all_goals
        go_wp2
        go_ret
        refine ⟨_, rfl, by rw [HF.out]; exact TR.mk (ht1.kp (by (focus ((repeat (first | (with_reducible assumption) | (with_reducible exact Kp.refl _) | (with_reducible apply Kp.drew) | (with_reducible apply Kp.drewN) | ((with_reducible apply Kp.setR); (focus (first | (with_reducible assumption) | (simp; done) | (simp; omega)))) | (with_reducible apply Kp.alloc) | ((with_reducible apply Kp.call); (with_reducible assumption)) | ((with_reducible apply Kp.app); (with_reducible assumption)))); done)))) (HR.out.kp (by (focus ((repeat (first | (with_reducible assumption) | (with_reducible exact Kp.refl _) | (with_reducible apply Kp.drew) | (with_reducible apply Kp.drewN) | ((with_reducible apply Kp.setR); (focus (first | (with_reducible assumption) | (simp; done) | (simp; omega)))) | (with_reducible apply Kp.alloc) | ((with_reducible apply Kp.call); (with_reducible assumption)) | ((with_reducible apply Kp.app); (with_reducible assumption)))); done)))) _, Kp.bel (by (focus ((repeat (first | (with_reducible assumption) | (with_reducible exact Kp.refl _) | (with_reducible apply Kp.drew) | (with_reducible apply Kp.drewN) | ((with_reducible apply Kp.setR); (focus (first | (with_reducible assumption) | (simp; done) | (simp; omega)))) | (with_reducible apply Kp.alloc) | ((with_reducible apply Kp.call); (with_reducible assumption)) | ((with_reducible apply Kp.app); (with_reducible assumption)))); done)))⟩
    · by_cases h2 : a < k
      · have IH := hide (fun w h => unl_any r pr k w h)
        have HF : Hid (unlT (.node a l r) k = .node a l (unlT r k)) := hide (by rw [unlT, if_neg h1, if_pos h2])
        have d1 : decide (k < a) = false := by simp; omega
        have d2 : decide (a < k) = true := by simp [h2]
        clear hl hr h1 h2
        go_enter Tryd.func43, Tryd.ntmps43
        go_wp2_with fail
        go_region_held3 (fun w' => w'.cell? ⟨b, 0, none⟩ = some (.int .i64 a) ∧ w'.cell? ⟨b, 1, none⟩ = some (.pointer pl) ∧ w'.cell? ⟨b, 2, none⟩ = some (.pointer pr) ∧ Kp w w')
          ((go_split_ands; refine KS.out _ ?_; (focus ((repeat (first | (with_reducible assumption) | (with_reducible exact Kp.refl _) | (with_reducible apply Kp.drew) | (with_reducible apply Kp.drewN) | ((with_reducible apply Kp.setR); (focus (first | (with_reducible assumption) | (simp; done) | (simp; omega)))) | (with_reducible apply Kp.alloc) | ((with_reducible apply Kp.call); (with_reducible assumption)) | ((with_reducible apply Kp.app); (with_reducible assumption)))); done))))
          ((go_at_call_of 43 (Value.pointer pr); (with_reducible refine (IH.out _ (HR.out.kp ?_)).mono ?_); (go_split_ands; (focus ((repeat (first | (with_reducible assumption) | (with_reducible exact Kp.refl _) | (with_reducible apply Kp.drew) | (with_reducible apply Kp.drewN) | ((with_reducible apply Kp.setR); (focus (first | (with_reducible assumption) | (simp; done) | (simp; omega)))) | (with_reducible apply Kp.alloc) | ((with_reducible apply Kp.call); (with_reducible assumption)) | ((with_reducible apply Kp.app); (with_reducible assumption)))); done))); rintro e w1 ⟨p1, rfl, ht1, hb1⟩))
        all_goals
          go_wp2
          go_ret
          refine ⟨_, rfl, by rw [HF.out]; exact TR.mk (HL.out.kp (by (focus ((repeat (first | (with_reducible assumption) | (with_reducible exact Kp.refl _) | (with_reducible apply Kp.drew) | (with_reducible apply Kp.drewN) | ((with_reducible apply Kp.setR); (focus (first | (with_reducible assumption) | (simp; done) | (simp; omega)))) | (with_reducible apply Kp.alloc) | ((with_reducible apply Kp.call); (with_reducible assumption)) | ((with_reducible apply Kp.app); (with_reducible assumption)))); done)))) (ht1.kp (by (focus ((repeat (first | (with_reducible assumption) | (with_reducible exact Kp.refl _) | (with_reducible apply Kp.drew) | (with_reducible apply Kp.drewN) | ((with_reducible apply Kp.setR); (focus (first | (with_reducible assumption) | (simp; done) | (simp; omega)))) | (with_reducible apply Kp.alloc) | ((with_reducible apply Kp.call); (with_reducible assumption)) | ((with_reducible apply Kp.app); (with_reducible assumption)))); done)))) _, Kp.bel (by (focus ((repeat (first | (with_reducible assumption) | (with_reducible exact Kp.refl _) | (with_reducible apply Kp.drew) | (with_reducible apply Kp.drewN) | ((with_reducible apply Kp.setR); (focus (first | (with_reducible assumption) | (simp; done) | (simp; omega)))) | (with_reducible apply Kp.alloc) | ((with_reducible apply Kp.call); (with_reducible assumption)) | ((with_reducible apply Kp.app); (with_reducible assumption)))); done)))⟩
      · have d1 : decide (k < a) = false := by simp; omega
        have d2 : decide (a < k) = false := by simp; omega
        have hf : unlT (.node a l r) k = if l.isN then r else if r.isN then l else .node (leastT r) l (unlT r (leastT r)) := by rw [unlT, if_neg h1, if_neg h2]
        cases l with
        | nil =>
          obtain rfl : pl = none := hl
          have HF : Hid (unlT (.node a .nil r) k = r) := hide hf
          clear hr h1 h2 hf
          go_enter Tryd.func43, Tryd.ntmps43
          go_wp2
          go_ret
          exact ⟨_, rfl, by rw [HF.out]; exact HR.out, Below.refl _ _⟩
        | node c x y =>
          obtain ⟨b2, px, py, rfl, _⟩ := id hl
          cases r with
          | nil =>
            obtain rfl : pr = none := hr
            have HF : Hid (unlT (.node a (.node c x y) .nil) k = .node c x y) := hide hf
            try clear hl
            try clear hr
            clear h1 h2 hf
            go_enter Tryd.func43, Tryd.ntmps43
            go_wp2
            go_ret
            exact ⟨_, rfl, by rw [HF.out]; exact HL.out, Below.refl _ _⟩
          | node d u z =>
            obtain ⟨b3, pu, pz, rfl, _⟩ := id hr
            have HLE := hide (fun w h => least_ref_any (.node d u z) (some ⟨b3, 0, none⟩) w h rfl)
            obtain ⟨m, hm⟩ : ∃ m, m = leastT (.node d u z) := ⟨_, rfl⟩
            rw [← hm] at HLE
            have IH := hide (fun w h => unl_any (.node d u z) (some ⟨b3, 0, none⟩) m w h)
            have HF : Hid (unlT (.node a (.node c x y) (.node d u z)) k = .node m (.node c x y) (unlT (.node d u z) m)) := hide (by rw [hf, hm]; rfl)
            obtain ⟨R, hRR⟩ : ∃ R, R = unlT (.node d u z) m := ⟨_, rfl⟩
            rw [← hRR] at IH HF
            try clear hl
            try clear hr
            clear h1 h2 hf hm hRR
            go_enter Tryd.func43, Tryd.ntmps43
            go_wp2_with fail
            with_reducible refine (HLE.out _ HR.out).mono ?_
            rintro e w0 ⟨rfl, hb0⟩
            have kk0 : Kp w w0 := Kp.of hb0
            clear hb0
            have c0' := kk0.cell c0
            have c1' := kk0.cell c1
            have c2' := kk0.cell c2
            clear c0 c1 c2 K0
            go_wp2_with fail
            go_region_held3 (fun w' => w'.cell? ⟨b, 0, none⟩ = some (.int .i64 a) ∧ w'.cell? ⟨b, 1, none⟩ = some (.pointer (some ⟨b2, 0, none⟩)) ∧ w'.cell? ⟨b, 2, none⟩ = some (.pointer (some ⟨b3, 0, none⟩)) ∧ Kp w w')
              ((go_split_ands; refine KS.out _ ?_; (focus ((repeat (first | (with_reducible assumption) | (with_reducible exact Kp.refl _) | (with_reducible apply Kp.drew) | (with_reducible apply Kp.drewN) | ((with_reducible apply Kp.setR); (focus (first | (with_reducible assumption) | (simp; done) | (simp; omega)))) | (with_reducible apply Kp.alloc) | ((with_reducible apply Kp.call); (with_reducible assumption)) | ((with_reducible apply Kp.app); (with_reducible assumption)))); done))))
              ((go_at_call_of 43 (Value.pointer (some ⟨b3, 0, none⟩)); (with_reducible refine (IH.out _ (HR.out.kp ?_)).mono ?_); (go_split_ands; (focus ((repeat (first | (with_reducible assumption) | (with_reducible exact Kp.refl _) | (with_reducible apply Kp.drew) | (with_reducible apply Kp.drewN) | ((with_reducible apply Kp.setR); (focus (first | (with_reducible assumption) | (simp; done) | (simp; omega)))) | (with_reducible apply Kp.alloc) | ((with_reducible apply Kp.call); (with_reducible assumption)) | ((with_reducible apply Kp.app); (with_reducible assumption)))); done))); rintro e w1 ⟨p1, rfl, ht1, hb1⟩))
            all_goals
              go_wp2
              go_ret
              refine ⟨_, rfl, by rw [HF.out]; exact TR.mk (HL.out.kp (by (focus ((repeat (first | (with_reducible assumption) | (with_reducible exact Kp.refl _) | (with_reducible apply Kp.drew) | (with_reducible apply Kp.drewN) | ((with_reducible apply Kp.setR); (focus (first | (with_reducible assumption) | (simp; done) | (simp; omega)))) | (with_reducible apply Kp.alloc) | ((with_reducible apply Kp.call); (with_reducible assumption)) | ((with_reducible apply Kp.app); (with_reducible assumption)))); done)))) (ht1.kp (by (focus ((repeat (first | (with_reducible assumption) | (with_reducible exact Kp.refl _) | (with_reducible apply Kp.drew) | (with_reducible apply Kp.drewN) | ((with_reducible apply Kp.setR); (focus (first | (with_reducible assumption) | (simp; done) | (simp; omega)))) | (with_reducible apply Kp.alloc) | ((with_reducible apply Kp.call); (with_reducible assumption)) | ((with_reducible apply Kp.app); (with_reducible assumption)))); done)))) _, Kp.bel (by (focus ((repeat (first | (with_reducible assumption) | (with_reducible exact Kp.refl _) | (with_reducible apply Kp.drew) | (with_reducible apply Kp.drewN) | ((with_reducible apply Kp.setR); (focus (first | (with_reducible assumption) | (simp; done) | (simp; omega)))) | (with_reducible apply Kp.alloc) | ((with_reducible apply Kp.call); (with_reducible assumption)) | ((with_reducible apply Kp.app); (with_reducible assumption)))); done)))⟩
end Go.Proofs.YtpkkajglbklboaaDoor
namespace Go.Proofs.YtpkkajglbklboaaDoor
open Go.ChangeShapes Go.WideShapes Go.ChangeAt Go.RowKit
set_option linter.unusedVariables false
set_option linter.unusedSimpArgs false

def skel : MT IP → T
  | .nil => .nil
  | .node a l r => .node a.1 (skel l) (skel r)
theorem skel_spots : ∀ (t : MT IP) (d : Int), (skel t).spots d = t.spotsBy Prod.fst d
  | .nil, _ => rfl
  | .node a l r, d => by simp [skel, T.spots, MT.spotsBy, skel_spots l, skel_spots r]
theorem skel_size : ∀ t : MT IP, (skel t).size = t.size
  | .nil => rfl
  | .node a l r => by simp [skel, T.size, MT.size, skel_size l, skel_size r]
theorem skel_isN : ∀ t : MT IP, (skel t).isN = true ↔ t = .nil
  | .nil => by simp [skel, T.isN]
  | .node a l r => by simp [skel, T.isN]
theorem skel_ins : ∀ (t : MT IP) (p : IP), leafT (skel t) p.1 = skel (ins t p)
  | .nil, p => rfl
  | .node a l r, p => by
    simp only [skel, leafT, ins]
    split
    · simp [skel, skel_ins l]
    · split
      · simp [skel, skel_ins r]
      · rfl
theorem skel_least : ∀ t : MT IP, leastT (skel t) = (minA t).1
  | .nil => rfl
  | .node a .nil r => rfl
  | .node a (.node b x y) r => by
    have := skel_least (.node b x y)
    rw [minA, ← this]; rfl
theorem skel_delMin : ∀ t : MT IP, Up (kM t) → t ≠ .nil → unlT (skel t) (minA t).1 = skel (delMin t)
  | .nil, _, h => absurd rfl h
  | .node a .nil r, _, _ => by
    simp only [skel, minA, delMin, unlT]
    rw [if_neg (by omega), if_neg (by omega)]; rfl
  | .node a (.node b x y) r, h, _ => by
    obtain ⟨h1, h2, h3, h4⟩ := up_node h
    have ih := skel_delMin (.node b x y) h1 (by simp)
    have hm : (minA (.node b x y)).1 < a.1 := h3 _ (by rw [kM_delMin]; simp)
    rw [minA, delMin]
    show unlT (.node a.1 (skel (.node b x y)) (skel r)) _ = _
    rw [unlT, if_pos hm, ih]; rfl
theorem skel_del : ∀ (t : MT IP) (k : Int), Up (kM t) → unlT (skel t) k = skel (del t k)
  | .nil, _, _ => rfl
  | .node a l r, k, h => by
    obtain ⟨h1, h2, h3, h4⟩ := up_node h
    show unlT (.node a.1 (skel l) (skel r)) k = _
    rw [unlT, del]
    split
    · rw [skel_del l k h1]; rfl
    · split
      · rw [skel_del r k h2]; rfl
      · cases l with
        | nil => rfl
        | node c x y =>
          cases r with
          | nil => rfl
          | node d u z =>
            rw [if_neg (by rw [skel_isN]; simp), if_neg (by rw [skel_isN]; simp), skel_least, skel_delMin _ h2 (by simp), delTop_nn]
            rfl
end Go.Proofs.YtpkkajglbklboaaDoor
namespace Go.Proofs.YtpkkajglbklboaaDoor
open Go.ChangeShapes Go.WideShapes Go.ChangeAt Go.RowKit
set_option linter.unusedVariables false
set_option linter.unusedSimpArgs false

set_option maxRecDepth 100000 in
set_option maxHeartbeats 4000000 in
theorem evenTree_any (n : Nat) : ∀ (l : List Int) (v : Value) (w : World), l.length ≤ n → n ≤ 1000000 → RD w eInt v l → Calls Tryd.prog 15 #[v] w (RetTR (skel (evenT l)) w) := by
  induction n with
  | zero =>
    intro l v w h0 hn hr
    have hl : l = [] := List.eq_nil_of_length_eq_zero (by omega)
    subst hl
    obtain ⟨A, c, rfl, hc, hm⟩ := hr.shape
    go_enter Tryd.func15, Tryd.ntmps15
    go_wp2
    go_ret
    exact ⟨none, rfl, by rw [evenT_nil]; rfl, Below.refl _ _⟩
  | succ n ih =>
    intro l v w h0 hn hr
    have IH := hide ih
    clear ih
    obtain ⟨A, c, rfl, hc, hm⟩ := hr.shape
    by_cases hl : l.length = 0
    · have hl' : l = [] := List.eq_nil_of_length_eq_zero hl
      subst hl'
      go_enter Tryd.func15, Tryd.ntmps15
      go_wp2
      go_ret
      exact ⟨none, rfl, by rw [evenT_nil]; rfl, Below.refl _ _⟩
    · have hlb : ((l.length : Int) == 0) = false := beq_eq_false_iff_ne.2 (by omega)
      obtain ⟨m, hm2⟩ : ∃ m, m = l.length / 2 := ⟨_, rfl⟩
      have hml : m < l.length := by omega
      have hq : ((l.length : Int)).tdiv 2 = (m : Int) := by rw [hm2]; rfl
      have hev := evenT_cons l (by omega)
      obtain ⟨K, hK⟩ : ∃ K, K = l[m]'hml := ⟨_, rfl⟩
      have HEV : Hid (skel (evenT l) = .node K (skel (evenT (l.take m))) (skel (evenT (l.drop (m + 1))))) := hide (by rw [hev, hK]; simp only [hm2, skel])
      obtain ⟨b, o, rfl, hb, c0⟩ := hr.int (k := m) hml
      rw [← hK] at c0
      have HR := hide hr
      have HL := hide hl
      have b1 : (m : Int) < (l.length : Int) := by omega
      have b2 : (m : Int) ≤ (c : Int) := by omega
      have b3 : (0 : Int) ≤ (m : Int) := by omega
      have b4 : (m : Int) + 1 ≤ (l.length : Int) := by omega
      have b5 : (0 : Int) ≤ (m : Int) + 1 := by omega
      have KS : Hid (∀ W', Kp w W' → (W'.cell? ⟨b, o + m, none⟩ = some (.int .i64 K) ∧ Kp w W')) := hide fun W' h => ⟨h.cell c0, h⟩
      obtain ⟨A2, hif⟩ : ∃ A2, (if c = m + 1 then some (⟨b, o, none⟩ : Addr) else some ⟨b, o + (m + 1), none⟩) = A2 := ⟨_, rfl⟩
      have HC1 := hide (fun W (h : Kp w W) => IH.out (l.take m) (.slice (some ⟨b, o, none⟩) m c) W (by simp; omega) (by omega) ((HR.out.kp h).takeS (by omega)))
      have HC2 := hide (fun W (h : Kp w W) => IH.out (l.drop (m + 1)) (.slice A2 (l.length - (m + 1)) (c - (m + 1))) W (by simp; omega) (by omega) ((HR.out.kp h).dropS (by omega) rfl (by simpa [eInt] using hif)))
      have tn : ((m : Int) + 1).toNat = m + 1 := by omega
      have hw : IntKind.i64.wrap ((m : Int) + 1) = (m : Int) + 1 := IntWalk.i64_in _ (by omega)
      have K0 := Kp.refl w
      clear hr hl hm2 hev hK
      go_enter Tryd.func15, Tryd.ntmps15
      go_wp2_with fail
      go_region_held3 (fun w' => w'.cell? ⟨b, o + m, none⟩ = some (.int .i64 K) ∧ Kp w w')
        ((go_split_ands; refine KS.out _ ?_; (focus ((repeat (first | (with_reducible assumption) | (with_reducible exact Kp.refl _) | (with_reducible apply Kp.drew) | (with_reducible apply Kp.drewN) | ((with_reducible apply Kp.setR); (focus (first | (with_reducible assumption) | (simp; done) | (simp; omega)))) | (with_reducible apply Kp.alloc) | ((with_reducible apply Kp.call); (with_reducible assumption)) | ((with_reducible apply Kp.app); (with_reducible assumption)))); done))))
        (first
          | (go_at_call 15; (with_reducible refine (HC1.out _ ?_).mono ?_); (go_split_ands; (focus ((repeat (first | (with_reducible assumption) | (with_reducible exact Kp.refl _) | (with_reducible apply Kp.drew) | (with_reducible apply Kp.drewN) | ((with_reducible apply Kp.setR); (focus (first | (with_reducible assumption) | (simp; done) | (simp; omega)))) | (with_reducible apply Kp.alloc) | ((with_reducible apply Kp.call); (with_reducible assumption)) | ((with_reducible apply Kp.app); (with_reducible assumption)))); done))); rintro e w1 ⟨p1, rfl, ht1, hb1⟩)
          | (go_at_call 15; (with_reducible refine (HC2.out _ ?_).mono ?_); (go_split_ands; (focus ((repeat (first | (with_reducible assumption) | (with_reducible exact Kp.refl _) | (with_reducible apply Kp.drew) | (with_reducible apply Kp.drewN) | ((with_reducible apply Kp.setR); (focus (first | (with_reducible assumption) | (simp; done) | (simp; omega)))) | (with_reducible apply Kp.alloc) | ((with_reducible apply Kp.call); (with_reducible assumption)) | ((with_reducible apply Kp.app); (with_reducible assumption)))); done))); rintro e w2 ⟨p2, rfl, ht2, hb2⟩))
      all_goals
        go_wp2
        go_ret
        refine ⟨some ⟨w2.heap.size, 0, none⟩, rfl, ?_, Kp.bel (by go_split_ands; (focus ((repeat (first | (with_reducible assumption) | (with_reducible exact Kp.refl _) | (with_reducible apply Kp.drew) | (with_reducible apply Kp.drewN) | ((with_reducible apply Kp.setR); (focus (first | (with_reducible assumption) | (simp; done) | (simp; omega)))) | (with_reducible apply Kp.alloc) | ((with_reducible apply Kp.call); (with_reducible assumption)) | ((with_reducible apply Kp.app); (with_reducible assumption)))); done)))⟩
        rw [HEV.out]
        exact TR.mk (ht1.below hb2) ht2 _
def ksT : T → List Int
  | .nil => []
  | .node k l r => ksT l ++ [k] ++ ksT r
theorem ksT_len : ∀ t : T, (ksT t).length = t.size
  | .nil => rfl
  | .node k l r => by simp [ksT, T.size, ksT_len l, ksT_len r]; omega
theorem ksT_skel : ∀ t : MT IP, ksT (skel t) = kM t
  | .nil => rfl
  | .node a l r => by rw [skel, ksT, kM_node, ksT_skel l, ksT_skel r]
set_option maxRecDepth 100000 in
set_option maxHeartbeats 4000000 in
theorem inOrder_any : ∀ (t : T) (v : Option Addr) (w : World), TR w t v → t.size ≤ 1000000 → Calls Tryd.prog 40 #[.pointer v] w (RetOW 3 eInt (ksT t) w)
  | .nil, v, w, h, h1 => by
    have h' : v = none := h
    subst h'
    go_enter Tryd.func40, Tryd.ntmps40
    go_wp2
    go_ret
    exact ⟨_, rfl, OW.nil, Below.refl _ _⟩
  | .node k l r, v, w, h, h1 => by
    obtain ⟨b, pl, pr, rfl, hb, c0, c1, c2, hl, hr⟩ := h
    simp only [T.size] at h1
    have HI := hide (fun w h => inOrder_any l pl w h (by omega))
    have HJ := hide (fun w h => inOrder_any r pr w h (by omega))
    have HL := hide hl
    have HR := hide hr
    clear hl hr
    have HM1 : Hid (((ksT l).length + [k].length) * 8 ≤ 140737488355328) := hide (by rw [ksT_len]; simp; omega)
    have HM2 : Hid ((ksT l).length + [k].length ≤ maxLen) := hide (by rw [ksT_len]; simp [maxLen]; omega)
    have HM3 : Hid (((ksT l ++ [k]).length + (ksT r).length) * 8 ≤ 140737488355328) := hide (by rw [List.length_append, ksT_len, ksT_len]; simp; omega)
    have HM4 : Hid ((ksT l ++ [k]).length + (ksT r).length ≤ maxLen) := hide (by rw [List.length_append, ksT_len, ksT_len]; simp [maxLen]; omega)
    have KS : Hid (∀ W', Kp w W' → (W'.cell? ⟨b, 0, none⟩ = some (.int .i64 k) ∧ W'.cell? ⟨b, 1, none⟩ = some (.pointer pl) ∧ W'.cell? ⟨b, 2, none⟩ = some (.pointer pr) ∧ Kp w W')) :=
      hide fun W' h => ⟨h.cell c0, h.cell c1, h.cell c2, h⟩
    have K0 := Kp.refl w
    have K1 := K0.drew
    clear h1
    go_enter Tryd.func40, Tryd.ntmps40
    go_wp2_with fail
    go_region_held3 (fun w' => w'.cell? ⟨b, 0, none⟩ = some (.int .i64 k) ∧ w'.cell? ⟨b, 1, none⟩ = some (.pointer pl) ∧ w'.cell? ⟨b, 2, none⟩ = some (.pointer pr) ∧ Kp w w')
      ((go_split_ands
        refine KS.out _ ?_
        (focus ((repeat (first | (with_reducible assumption) | (with_reducible exact Kp.refl _) | (with_reducible apply Kp.drew) | (with_reducible apply Kp.drewN) | ((with_reducible apply Kp.setR); (focus (first | (with_reducible assumption) | (simp; done) | (simp; omega)))) | (with_reducible apply Kp.alloc) | ((with_reducible apply Kp.call); (with_reducible assumption)) | ((with_reducible apply Kp.app); (with_reducible assumption)))); done))))
      (first
        | (go_at_call_of 40 (Value.pointer pl); refine (HI.out _ (HL.out.below (Kp.bel ?_))).mono ?_; (go_split_ands; (focus ((repeat (first | (with_reducible assumption) | (with_reducible exact Kp.refl _) | (with_reducible apply Kp.drew) | (with_reducible apply Kp.drewN) | ((with_reducible apply Kp.setR); (focus (first | (with_reducible assumption) | (simp; done) | (simp; omega)))) | (with_reducible apply Kp.alloc) | ((with_reducible apply Kp.call); (with_reducible assumption)) | ((with_reducible apply Kp.app); (with_reducible assumption)))); done))); rintro e w1 ⟨v1, rfl, ho1', hb1⟩; have ho1 := OW.more ho1' (Kp.size (w := w) (by go_split_ands; (focus ((repeat (first | (with_reducible assumption) | (with_reducible exact Kp.refl _) | (with_reducible apply Kp.drew) | (with_reducible apply Kp.drewN) | ((with_reducible apply Kp.setR); (focus (first | (with_reducible assumption) | (simp; done) | (simp; omega)))) | (with_reducible apply Kp.alloc) | ((with_reducible apply Kp.call); (with_reducible assumption)) | ((with_reducible apply Kp.app); (with_reducible assumption)))); done)))); have lo1 := ho1.lo; have hi1 := ho1.hi; clear ho1')
        | (go_at_call_of 40 (Value.pointer pr); refine (HJ.out _ (HR.out.below (Kp.bel ?_))).mono ?_; (go_split_ands; (focus ((repeat (first | (with_reducible assumption) | (with_reducible exact Kp.refl _) | (with_reducible apply Kp.drew) | (with_reducible apply Kp.drewN) | ((with_reducible apply Kp.setR); (focus (first | (with_reducible assumption) | (simp; done) | (simp; omega)))) | (with_reducible apply Kp.alloc) | ((with_reducible apply Kp.call); (with_reducible assumption)) | ((with_reducible apply Kp.app); (with_reducible assumption)))); done))); rintro e w2 ⟨v2, rfl, ho2', hb2⟩; have ho2 := OW.more ho2' (Kp.size (w := w) (by go_split_ands; (focus ((repeat (first | (with_reducible assumption) | (with_reducible exact Kp.refl _) | (with_reducible apply Kp.drew) | (with_reducible apply Kp.drewN) | ((with_reducible apply Kp.setR); (focus (first | (with_reducible assumption) | (simp; done) | (simp; omega)))) | (with_reducible apply Kp.alloc) | ((with_reducible apply Kp.call); (with_reducible assumption)) | ((with_reducible apply Kp.app); (with_reducible assumption)))); done)))); try have hap := lo3.apart (Hi.mono ho2'.hi (by simp)); have lo2 := ho2.lo; clear ho2')
        | ((with_reducible refine step_app (l := ksT l) (m := [k]) row_int v1 ?_ (.tmp 9) (.tmp 14) ?_ ?_ ?_ ?_ HM1.out HM2.out (Kp.size (w := w) ?_) ?_); (with_reducible rfl); (with_reducible rfl); rfl; (focus ((repeat (first | (with_reducible assumption) | (with_reducible apply OW.alloc) | (with_reducible apply OW.drew) | (with_reducible apply OW.drewN) | ((with_reducible apply OW.setCellR); (with_reducible assumption)) | ((with_reducible apply OW.belowR); (with_reducible assumption)) | ((with_reducible apply OW.keptR); (with_reducible assumption); (with_reducible assumption)))); done)); (show RD _ _ (.slice (some ⟨_, 0, none⟩) 1 1) _; (focus ((repeat (first | (with_reducible assumption) | exact RD.new1 _ rfl | (refine RD.new1e _ ?_ rfl; simp; done) | (with_reducible apply RD.alloc) | (with_reducible apply RD.drew) | (with_reducible apply RD.drewN) | ((with_reducible apply RD.belowR); (with_reducible assumption)))); done))); (go_split_ands; (focus ((repeat (first | (with_reducible assumption) | (with_reducible exact Kp.refl _) | (with_reducible apply Kp.drew) | (with_reducible apply Kp.drewN) | ((with_reducible apply Kp.setR); (focus (first | (with_reducible assumption) | (simp; done) | (simp; omega)))) | (with_reducible apply Kp.alloc) | ((with_reducible apply Kp.call); (with_reducible assumption)) | ((with_reducible apply Kp.app); (with_reducible assumption)))); done))); intro v3 w3 ho3 hg3 hat3; have hi3 := ho3.hi; have lo3 := ho3.lo)
        | ((with_reducible refine step_app (l := (ksT l ++ [k])) (m := ksT r) row_int v3 ?_ (.tmp 15) (.tmp 20) ?_ ?_ ?_ ?_ HM3.out HM4.out (Kp.size (w := w) ?_) ?_); (with_reducible rfl); (with_reducible rfl); rfl; (focus ((repeat (first | (with_reducible assumption) | (with_reducible apply OW.alloc) | (with_reducible apply OW.drew) | (with_reducible apply OW.drewN) | ((with_reducible apply OW.setCellR); (with_reducible assumption)) | ((with_reducible apply OW.belowR); (with_reducible assumption)) | ((with_reducible apply OW.keptR); (with_reducible assumption); (with_reducible assumption)))); done)); (show RD _ _ v2 _; refine OW.rd (B := w.heap.size) (e := 3) ?_; (focus ((repeat (first | (with_reducible assumption) | (with_reducible apply OW.alloc) | (with_reducible apply OW.drew) | (with_reducible apply OW.drewN) | ((with_reducible apply OW.setCellR); (with_reducible assumption)) | ((with_reducible apply OW.belowR); (with_reducible assumption)) | ((with_reducible apply OW.keptR); (with_reducible assumption); (with_reducible assumption)))); done))); (go_split_ands; (focus ((repeat (first | (with_reducible assumption) | (with_reducible exact Kp.refl _) | (with_reducible apply Kp.drew) | (with_reducible apply Kp.drewN) | ((with_reducible apply Kp.setR); (focus (first | (with_reducible assumption) | (simp; done) | (simp; omega)))) | (with_reducible apply Kp.alloc) | ((with_reducible apply Kp.call); (with_reducible assumption)) | ((with_reducible apply Kp.app); (with_reducible assumption)))); done))); intro v4 w4 ho4 hg4 hat4))
    all_goals
      go_wp2
      go_ret
      exact ⟨_, rfl, ho4, Kp.bel (by (focus ((repeat (first | (with_reducible assumption) | (with_reducible exact Kp.refl _) | (with_reducible apply Kp.drew) | (with_reducible apply Kp.drewN) | ((with_reducible apply Kp.setR); (focus (first | (with_reducible assumption) | (simp; done) | (simp; omega)))) | (with_reducible apply Kp.alloc) | ((with_reducible apply Kp.call); (with_reducible assumption)) | ((with_reducible apply Kp.app); (with_reducible assumption)))); done)))⟩
theorem lenT_le : ∀ (t : MT IP) (k : Int), lenT t k ≤ t.size
  | .nil, k => by simp [lenT]
  | .node a l r, k => by
    have h1 := lenT_le l k
    have h2 := lenT_le r k
    unfold lenT
    simp only [MT.size]
    split
    · omega
    · split <;> omega
set_option maxRecDepth 100000 in
set_option maxHeartbeats 4000000 in
theorem depthIn_any (t : MT IP) : ∀ (p : Option Addr) (k : Int) (w : World), Up (kM t) → k ∈ kM t → t.size ≤ 100000 → TR w (skel t) p → Calls Tryd.prog 41 #[.pointer p, .int .i64 k] w (Ret (.int .i64 (lenT t k : Int)) w) := by
  induction t with
  | nil => intro p k w _ hk; cases hk
  | node a l r ihl ihr =>
    intro p k w hu hk hs h
    obtain ⟨u1, u2, u3, u4⟩ := up_node hu
    obtain ⟨b, pl, pr, rfl, hb, c0, c1, c2, hl, hr⟩ := h
    rw [kM_node] at hk
    simp only [List.mem_append, List.mem_singleton] at hk
    simp only [MT.size] at hs
    rcases Int.lt_trichotomy k a.1 with hlt | heq | hgt
    · have hkl : k ∈ kM l := by
        rcases hk with (hk | hk) | hk
        · exact hk
        · omega
        · have := u4 k hk; omega
      have hle := lenT_le l k
      have IH := hide (ihl pl k w u1 hkl (by omega) hl)
      have HL : Hid (lenT (.node a l r) k = lenT l k + 1) := hide (by rw [lenT, if_neg (by omega), if_pos hlt])
      obtain ⟨n, hn⟩ : ∃ n, n = lenT l k := ⟨_, rfl⟩
      rw [← hn] at IH HL hle
      have hw : IntKind.i64.wrap ((n : Int) + 1) = ((n + 1 : Nat) : Int) := by rw [IntWalk.i64_in _ (by omega)]; omega
      have d1 : decide (k < a.1) = true := decide_eq_true hlt
      clear ihl ihr hu hk hs u1 u2 u3 u4 hkl hl hr hn hlt hle
      go_enter Tryd.func41, Tryd.ntmps41
      go_wp2_with fail
      with_reducible refine IH.out.mono ?_
      rintro e w1 ⟨rfl, hb1⟩
      go_wp2
      go_ret
      exact ⟨by rw [HL.out]; rfl, hb1⟩
    · have HL : Hid (lenT (.node a l r) k = 0) := hide (by rw [lenT, if_pos heq])
      have d1 : decide (k < a.1) = false := decide_eq_false (by omega)
      have d2 : decide (a.1 < k) = false := decide_eq_false (by omega)
      clear ihl ihr hu hk hs u1 u2 u3 u4 hl hr heq
      go_enter Tryd.func41, Tryd.ntmps41
      go_wp2
      go_ret
      exact ⟨by rw [HL.out]; rfl, Below.refl _ _⟩
    · have hkr : k ∈ kM r := by
        rcases hk with (hk | hk) | hk
        · have := u3 k hk; omega
        · omega
        · exact hk
      have hle := lenT_le r k
      have IH := hide (ihr pr k w u2 hkr (by omega) hr)
      have HL : Hid (lenT (.node a l r) k = lenT r k + 1) := hide (by rw [lenT, if_neg (by omega), if_neg (by omega)])
      obtain ⟨n, hn⟩ : ∃ n, n = lenT r k := ⟨_, rfl⟩
      rw [← hn] at IH HL hle
      have hw : IntKind.i64.wrap ((n : Int) + 1) = ((n + 1 : Nat) : Int) := by rw [IntWalk.i64_in _ (by omega)]; omega
      have d1 : decide (k < a.1) = false := decide_eq_false (by omega)
      have d2 : decide (a.1 < k) = true := decide_eq_true hgt
      clear ihl ihr hu hk hs u1 u2 u3 u4 hkr hl hr hn hgt hle
      go_enter Tryd.func41, Tryd.ntmps41
      go_wp2_with fail
      with_reducible refine IH.out.mono ?_
      rintro e w1 ⟨rfl, hb1⟩
      go_wp2
      go_ret
      exact ⟨by rw [HL.out]; rfl, hb1⟩
end Go.Proofs.YtpkkajglbklboaaDoor
namespace Go.Proofs.YtpkkajglbklboaaDoor
open Go.ChangeShapes Go.WideShapes Go.ChangeAt Go.RowKit
set_option linter.unusedVariables false
set_option linter.unusedSimpArgs false

def PwRel (b n : Nat) (w : World) (pv iv : Value) (wr : World) : Prop := ∃ i P : Nat, i ≤ n ∧ P = b ^ i ∧ pv = .int .i64 (P : Int) ∧ iv = .int .i64 (i : Int) ∧ w = wr
theorem pow_top (b i : Nat) (hb : b ≤ 3) (hi : i ≤ 30) : b ^ i ≤ 205891132094649 := by
  have h1 : b ^ i ≤ 3 ^ i := Nat.pow_le_pow_left hb i
  have h2 : 3 ^ i ≤ 3 ^ 30 := Nat.pow_le_pow_right (by omega) hi
  have h3 : (3 : Nat) ^ 30 = 205891132094649 := by decide +kernel
  omega
set_option maxRecDepth 100000 in
set_option maxHeartbeats 4000000 in
theorem power_any (b n : Nat) (hb : b ≤ 3) (hn : n ≤ 30) (w : World) : Calls Tryd.prog 37 #[.int .i64 (b : Int), .int .i64 (n : Int)] w (fun e w' => e = .returned (.int .i64 ((b ^ n : Nat) : Int)) ∧ w = w') := by
  obtain ⟨N, hN⟩ : ∃ N, N = b ^ n := ⟨_, rfl⟩
  rw [← hN]
  have HN := hide hN
  clear hN
  go_enter Tryd.func37, Tryd.ntmps37
  go_wp2
  go_loopw [5, 7] (PwRel b n w) (fun _ iv _ => n - (intOf iv).toNat)
  case atStart => exact ⟨0, 1, by omega, by simp, rfl, rfl, rfl⟩
  case round =>
    obtain ⟨i, P, hi, hP, rfl, rfl, rfl⟩ := hrel
    have hPb := pow_top b i hb (by omega)
    rw [← hP] at hPb
    have HP := hide hP
    clear hP
    by_cases hlt : i < n
    · obtain ⟨Q, hQ⟩ : ∃ Q, Q = P * b := ⟨_, rfl⟩
      have hQb : Q ≤ 205891132094649 * 3 := by rw [hQ]; exact Nat.mul_le_mul hPb hb
      have v1 : IntKind.i64.wrap ((P : Int) * (b : Int)) = (Q : Int) := by rw [← Int.natCast_mul, ← hQ]; exact IntWalk.i64_in _ (by omega)
      have v2 : IntKind.i64.wrap ((i : Int) + 1) = ((i + 1 : Nat) : Int) := by rw [IntWalk.i64_in _ (by omega)]; omega
      have HQ := hide hQ
      have d1 : (i : Int) < (n : Int) := by omega
      clear hQ
      go_wp2
      go_roundw
      case rel => exact ⟨i + 1, Q, by omega, by rw [HQ.out, HP.out, Nat.pow_succ], rfl, rfl, rfl⟩
      case measure => simp [intOf]; omega
    · obtain rfl : i = n := by omega
      have HE : Hid (P = N) := hide (HP.out.trans HN.out.symm)
      go_wp2
      go_ret
      exact ⟨by rw [HE.out]; rfl, rfl⟩
theorem deep_iff (m i : Nat) (hm : 0 < m) (hmm : m ≤ 1000) : 3 ^ i ≤ m * 2 ^ i ↔ i ≤ deepF m := by
  constructor
  · exact deepF_ge m i hm hmm
  · intro h
    rcases Nat.lt_or_ge (m * 2 ^ i) (3 ^ i) with h1 | h1
    · have h2 := pow_mono_le m i (deepF m) h h1
      have := (deepF_spec m hm hmm).1
      omega
    · exact h1
def DoRel (m : Nat) (w : World) (dv nv : Value) (wr : World) : Prop := ∃ i : Nat, 1 ≤ i ∧ i ≤ 31 ∧ dv = .int .i64 ((min (i - 1) (deepF m) : Nat) : Int) ∧ nv = .int .i64 (i : Int) ∧ w = wr
set_option maxRecDepth 100000 in
set_option maxHeartbeats 4000000 in
theorem deepestOf_any (m : Nat) (hm : m ≤ 1000) (w : World) : Calls Tryd.prog 17 #[.int .i64 (m : Int)] w (fun e w' => e = .returned (.int .i64 (deepF m : Int)) ∧ w = w') := by
  have HLT := hide (deepF_lt m hm)
  have HIF := hide (fun i (h : 0 < m) => deep_iff m i h hm)
  have HZ : Hid (m = 0 → deepF m = 0) := hide (fun h => by rw [h]; exact deepF_zero)
  go_enter Tryd.func17, Tryd.ntmps17
  go_wp2
  go_loopw [4, 5] (DoRel m w) (fun _ nv _ => 31 - (intOf nv).toNat)
  case atStart => exact ⟨1, by omega, by omega, by simp, rfl, rfl⟩
  case round =>
    obtain ⟨i, hi1, hi2, rfl, rfl, rfl⟩ := hrel
    by_cases hlt : i ≤ 30
    · have d1 : (i : Int) ≤ 30 := by omega
      have v9 : IntKind.i64.wrap ((i : Int) + 1) = ((i + 1 : Nat) : Int) := by rw [IntWalk.i64_in _ (by omega)]; omega
      rcases Nat.eq_zero_or_pos m with hm0 | hm0
      · have hD : deepF m = 0 := HZ.out hm0
        have HD : Hid (min (i - 1) (deepF m) = min (i + 1 - 1) (deepF m)) := hide (by rw [hD]; simp)
        subst hm0
        clear hD
        go_wp2
        go_roundw
        case rel => exact ⟨i + 1, by omega, by omega, by rw [HD.out], rfl, rfl⟩
        case measure => simp [intOf]; omega
      · have d2 : (0 : Int) < (m : Int) := by omega
        have hA := pow_top 3 i (by omega) hlt
        have hB : 2 ^ i ≤ 2 ^ 30 := Nat.pow_le_pow_right (by omega) hlt
        have hB2 : (2 : Nat) ^ 30 = 1073741824 := by decide +kernel
        rw [hB2] at hB
        have hif := HIF.out i hm0
        have HP3 : Hid (∀ W, Calls Tryd.prog 37 #[.int .i64 3, .int .i64 (i : Int)] W (fun e w' => e = .returned (.int .i64 ((3 ^ i : Nat) : Int)) ∧ W = w')) := hide (fun W => power_any 3 i (by omega) hlt W)
        have HP2 : Hid (∀ W, Calls Tryd.prog 37 #[.int .i64 2, .int .i64 (i : Int)] W (fun e w' => e = .returned (.int .i64 ((2 ^ i : Nat) : Int)) ∧ W = w')) := hide (fun W => power_any 2 i (by omega) hlt W)
        obtain ⟨A, hAe⟩ : ∃ A, A = 3 ^ i := ⟨_, rfl⟩
        obtain ⟨B, hBe⟩ : ∃ B, B = 2 ^ i := ⟨_, rfl⟩
        rw [← hAe] at HP3 hA hif
        rw [← hBe] at HP2 hB hif
        obtain ⟨MB, hMB⟩ : ∃ MB, MB = m * B := ⟨_, rfl⟩
        have hMBb : MB ≤ 1000 * 1073741824 := by rw [hMB]; exact Nat.mul_le_mul hm hB
        rw [← hMB] at hif
        have v1 : IntKind.i64.wrap ((m : Int) * (B : Int)) = (MB : Int) := by rw [← Int.natCast_mul, ← hMB]; exact IntWalk.i64_in _ (by omega)
        clear hAe hBe hMB hB2
        by_cases hc : A ≤ MB
        · have hle := hif.1 hc
          have HD : Hid (((i : Nat) : Int) = ((min (i + 1 - 1) (deepF m) : Nat) : Int)) := hide (by rw [Nat.add_sub_cancel, Nat.min_eq_left hle])
          have d3 : decide (A ≤ MB) = true := decide_eq_true hc
          have d3' : (A : Int) ≤ (MB : Int) := by omega
          clear hif hle
          go_wp2_with fail
          with_reducible refine (HP3.out _).mono ?_
          rintro e w1 ⟨rfl, rfl⟩
          go_wp2_with fail
          with_reducible refine (HP2.out _).mono ?_
          rintro e w1 ⟨rfl, rfl⟩
          go_wp2
          go_roundw
          case rel => exact ⟨i + 1, by omega, by omega, by rw [← HD.out], rfl, rfl⟩
          case measure => simp [intOf]; omega
        · have hle : ¬ i ≤ deepF m := fun h => hc (hif.2 h)
          have HD : Hid (min (i - 1) (deepF m) = min (i + 1 - 1) (deepF m)) := hide (by omega)
          have d3 : decide (A ≤ MB) = false := decide_eq_false hc
          have d3' : ¬ (A : Int) ≤ (MB : Int) := by omega
          clear hif hle
          go_wp2_with fail
          with_reducible refine (HP3.out _).mono ?_
          rintro e w1 ⟨rfl, rfl⟩
          go_wp2_with fail
          with_reducible refine (HP2.out _).mono ?_
          rintro e w1 ⟨rfl, rfl⟩
          go_wp2
          go_roundw
          case rel => exact ⟨i + 1, by omega, by omega, by rw [HD.out], rfl, rfl⟩
          case measure => simp [intOf]; omega
    · obtain rfl : i = 31 := by omega
      have HD : Hid (min (31 - 1) (deepF m) = deepF m) := hide (by have := HLT.out; omega)
      rw [HD.out]
      go_wp2
      go_ret
      exact ⟨rfl, rfl⟩
end Go.Proofs.YtpkkajglbklboaaDoor
namespace Go.Proofs.YtpkkajglbklboaaDoor
open Go.ChangeShapes Go.WideShapes Go.ChangeAt Go.RowKit
set_option linter.unusedVariables false
set_option linter.unusedSimpArgs false

def BaPost (r : MT IP × Nat × Bool) (w : World) (e : Ending) (w' : World) : Prop := ∃ p, e = .returned (.tuple #[.pointer p, .int .i64 (r.2.1 : Int), .bool r.2.2]) ∧ TR w' (skel r.1) p ∧ Below w.heap.size w w'
set_option maxRecDepth 100000 in
set_option maxHeartbeats 8000000 in
theorem builtAnew_any (t : MT IP) : ∀ (p : Option Addr) (k : Int) (w : World), TR w (skel t) p → t.size ≤ 100000 → Calls Tryd.prog 42 #[.pointer p, .int .i64 k] w (BaPost (fixT t k) w) := by
  induction t with
  | nil =>
    intro p k w h hs
    obtain rfl : p = none := h
    go_enter Tryd.func42, Tryd.ntmps42
    go_wp2
    go_ret3
    exact ⟨none, rfl, rfl, Below.refl _ _⟩
  | node a l r ihl ihr =>
    intro p k w h hs
    have HTN := hide h
    obtain ⟨b, pl, pr, rfl, hb, c0, c1, c2, hl, hr⟩ := h
    simp only [MT.size] at hs
    have HOL := hide (fun W h => inOrder_any (skel l) pl W h (by rw [skel_size]; omega))
    have HOR := hide (fun W h => inOrder_any (skel r) pr W h (by rw [skel_size]; omega))
    have HON := hide (fun W h => inOrder_any (skel (.node a l r)) (some ⟨b, 0, none⟩) W h (by rw [skel_size]; simp only [MT.size]; omega))
    have hnl : (ksT (skel l)).length = l.size := by rw [ksT_len, skel_size]
    have hnr : (ksT (skel r)).length = r.size := by rw [ksT_len, skel_size]
    have HNN : Hid ((ksT (skel (.node a l r))).length = l.size + 1 + r.size) := hide (by rw [ksT_len, skel_size]; rfl)
    obtain ⟨sa, hsa⟩ : ∃ x, x = l.size := ⟨_, rfl⟩
    obtain ⟨sb, hsb⟩ : ∃ x, x = r.size := ⟨_, rfl⟩
    have hle : leans l r = decide (2 * (sa + sb + 1) < 3 * max sa sb) := by unfold leans; rw [hsa, hsb]
    have HSB : Hid (l.size + 1 + r.size ≤ 100000) := hide hs
    rw [← hsa] at hnl hs
    rw [← hsb] at hnr hs
    obtain ⟨mx, hmx⟩ : ∃ x, x = max sa sb := ⟨_, rfl⟩
    have hMX : max (sa : Int) (sb : Int) = (mx : Int) := by omega
    have hmxb : mx ≤ 100000 := by omega
    obtain ⟨P, hP⟩ : ∃ x, x = 3 * mx := ⟨_, rfl⟩
    obtain ⟨Q, hQ⟩ : ∃ x, x = 2 * (sa + sb + 1) := ⟨_, rfl⟩
    rw [← hmx, ← hP, ← hQ] at hle
    have v1 : IntKind.i64.wrap (3 * (mx : Int)) = (P : Int) := by rw [IntWalk.i64_in _ (by omega)]; omega
    have v2 : IntKind.i64.wrap ((sa : Int) + (sb : Int)) = (sa : Int) + (sb : Int) := IntWalk.i64_in _ (by omega)
    have v3 : IntKind.i64.wrap ((sa : Int) + (sb : Int) + 1) = (sa : Int) + (sb : Int) + 1 := IntWalk.i64_in _ (by omega)
    have v4 : IntKind.i64.wrap (2 * ((sa : Int) + (sb : Int) + 1)) = (Q : Int) := by rw [IntWalk.i64_in _ (by omega)]; omega
    have HSS : Hid (((l.size + r.size + 1 : Nat) : Int) = (sa : Int) + (sb : Int) + 1) := hide (by rw [hsa, hsb]; omega)
    have HLE := hide hle
    have HTL := hide hl
    have HTR := hide hr
    have HIL := hide (ihl pl k)
    have HIR := hide (ihr pr k)
    have KS : Hid (∀ W', Kp w W' → (W'.cell? ⟨b, 0, none⟩ = some (.int .i64 a.1) ∧ W'.cell? ⟨b, 1, none⟩ = some (.pointer pl) ∧ W'.cell? ⟨b, 2, none⟩ = some (.pointer pr) ∧ Kp w W')) :=
      hide fun W' h => ⟨h.cell c0, h.cell c1, h.cell c2, h⟩
    have HLB : Hid (l.size ≤ 100000 ∧ r.size ≤ 100000) := hide (by rw [← hsa, ← hsb]; omega)
    clear ihl ihr hl hr hle hsa hsb hmx hmxb hP hQ hs
    rcases Int.lt_trichotomy k a.1 with hlt | heq | hgt
    · have e1 : (a.1 == k) = false := by simp; omega
      have d1 : decide (k < a.1) = true := decide_eq_true hlt
      have hne : ¬ k = a.1 := by omega
      cases hf : (fixT l k).2.2 with
      | true =>
        have HF : Hid (fixT (.node a l r) k = (.node a (fixT l k).1 r, (fixT l k).2.1, true)) := hide (by rw [fixT, if_neg hne, if_pos hlt, if_pos hf])
        have HI := hide (HIL.out w HTL.out HLB.out.1)
        obtain ⟨R, hR⟩ : ∃ R, R = fixT l k := ⟨_, rfl⟩
        rw [← hR] at HI HF hf
        obtain ⟨R1, R2, R3⟩ := R
        simp only at hf HF
        subst hf
        clear hR hne hlt
        go_enter Tryd.func42, Tryd.ntmps42
        go_wp2_with fail
        with_reducible refine HI.out.mono ?_
        rintro e w1 ⟨p1, rfl, ht1, hb1⟩
        have kk1 := Kp.of hb1
        have HT1 := hide ht1
        have K1 := Kp.refl w1
        have KS2 : Hid (∀ W', Kp w1 W' → (W'.cell? ⟨b, 0, none⟩ = some (.int .i64 a.1) ∧ W'.cell? ⟨b, 1, none⟩ = some (.pointer pl) ∧ W'.cell? ⟨b, 2, none⟩ = some (.pointer pr) ∧ Kp w1 W')) :=
          hide fun W' h => ⟨h.cell (kk1.cell c0), h.cell (kk1.cell c1), h.cell (kk1.cell c2), h⟩
        clear ht1 hb1
        go_wp2_with fail
        go_region_held3 (fun w' => w'.cell? ⟨b, 0, none⟩ = some (.int .i64 a.1) ∧ w'.cell? ⟨b, 1, none⟩ = some (.pointer pl) ∧ w'.cell? ⟨b, 2, none⟩ = some (.pointer pr) ∧ Kp w1 w')
          ((go_split_ands; refine KS2.out _ ?_; (focus ((repeat (first | (with_reducible assumption) | (with_reducible exact Kp.refl _) | (with_reducible apply Kp.drew) | (with_reducible apply Kp.drewN) | ((with_reducible apply Kp.setR); (focus (first | (with_reducible assumption) | (simp; done) | (simp; omega)))) | (with_reducible apply Kp.alloc) | ((with_reducible apply Kp.call); (with_reducible assumption)) | ((with_reducible apply Kp.app); (with_reducible assumption)))); done))))
          (fail)
        all_goals
          go_wp2
          go_ret3
          exact ⟨_, by rw [HF.out]; rfl, by rw [HF.out]; exact TR.kp (t := .node a.1 (skel R1) (skel r)) (TR.mk HT1.out (HTR.out.kp kk1) _) (Kp.refl _).drew, (kk1.trans (by (focus ((repeat (first | (with_reducible assumption) | (with_reducible exact Kp.refl _) | (with_reducible apply Kp.drew) | (with_reducible apply Kp.drewN) | ((with_reducible apply Kp.setR); (focus (first | (with_reducible assumption) | (simp; done) | (simp; omega)))) | (with_reducible apply Kp.alloc) | ((with_reducible apply Kp.call); (with_reducible assumption)) | ((with_reducible apply Kp.app); (with_reducible assumption)))); done)))).bel⟩
      | false =>
        have HFX : Hid ((leans l r = true → fixT (.node a l r) k = (evenT (kM (.node a l r)), l.size + r.size + 1, true)) ∧ (leans l r = false → fixT (.node a l r) k = (.node a l r, 0, false))) := hide (by
          rw [fixT, if_neg hne, if_pos hlt, if_neg (by simp [hf])]
          exact ⟨fun h => by rw [if_pos h], fun h => by rw [if_neg (by simp [h])]⟩)
        have HI := hide (HIL.out w HTL.out HLB.out.1)
        obtain ⟨R, hR⟩ : ∃ R, R = fixT l k := ⟨_, rfl⟩
        rw [← hR] at HI hf
        obtain ⟨R1, R2, R3⟩ := R
        simp only at hf
        subst hf
        clear hR hne hlt
        go_enter Tryd.func42, Tryd.ntmps42
        go_wp2_with fail
        with_reducible refine HI.out.mono ?_
        rintro e w1 ⟨p1, rfl, ht1, hb1⟩
        have kk1 := Kp.of hb1
        clear ht1 hb1
        -- neither below: does it lean itself
        have KS2 : Hid (∀ W', Kp w1 W' → (W'.cell? ⟨b, 0, none⟩ = some (.int .i64 a.1) ∧ W'.cell? ⟨b, 1, none⟩ = some (.pointer pl) ∧ W'.cell? ⟨b, 2, none⟩ = some (.pointer pr) ∧ Kp w1 W')) :=
          hide fun W' h => ⟨h.cell (kk1.cell c0), h.cell (kk1.cell c1), h.cell (kk1.cell c2), h⟩
        have K2 := Kp.refl w1
        go_wp2_with fail
        go_region_held3 (fun w' => w'.cell? ⟨b, 0, none⟩ = some (.int .i64 a.1) ∧ w'.cell? ⟨b, 1, none⟩ = some (.pointer pl) ∧ w'.cell? ⟨b, 2, none⟩ = some (.pointer pr) ∧ Kp w1 w')
          ((go_split_ands; refine KS2.out _ ?_; (focus ((repeat (first | (with_reducible assumption) | (with_reducible exact Kp.refl _) | (with_reducible apply Kp.drew) | (with_reducible apply Kp.drewN) | ((with_reducible apply Kp.setR); (focus (first | (with_reducible assumption) | (simp; done) | (simp; omega)))) | (with_reducible apply Kp.alloc) | ((with_reducible apply Kp.call); (with_reducible assumption)) | ((with_reducible apply Kp.app); (with_reducible assumption)))); done))))
          (first
            | (go_at_call_of 40 (Value.pointer pl); (with_reducible refine (HOL.out _ (HTL.out.kp (kk1.trans ?_))).mono ?_); (go_split_ands; (focus ((repeat (first | (with_reducible assumption) | (with_reducible exact Kp.refl _) | (with_reducible apply Kp.drew) | (with_reducible apply Kp.drewN) | ((with_reducible apply Kp.setR); (focus (first | (with_reducible assumption) | (simp; done) | (simp; omega)))) | (with_reducible apply Kp.alloc) | ((with_reducible apply Kp.call); (with_reducible assumption)) | ((with_reducible apply Kp.app); (with_reducible assumption)))); done))); rintro e w7 ⟨v7, rfl, ho7, hb7⟩; obtain ⟨X7, Y7, rfl, _, _⟩ := ho7.rd.shape)
            | (go_at_call_of 40 (Value.pointer pr); (with_reducible refine (HOR.out _ (HTR.out.kp (kk1.trans ?_))).mono ?_); (go_split_ands; (focus ((repeat (first | (with_reducible assumption) | (with_reducible exact Kp.refl _) | (with_reducible apply Kp.drew) | (with_reducible apply Kp.drewN) | ((with_reducible apply Kp.setR); (focus (first | (with_reducible assumption) | (simp; done) | (simp; omega)))) | (with_reducible apply Kp.alloc) | ((with_reducible apply Kp.call); (with_reducible assumption)) | ((with_reducible apply Kp.app); (with_reducible assumption)))); done))); rintro e w8 ⟨v8, rfl, ho8, hb8⟩; obtain ⟨X8, Y8, rfl, _, _⟩ := ho8.rd.shape))
        have kk8 : Kp w1 w8 := by (go_split_ands; (focus ((repeat (first | (with_reducible assumption) | (with_reducible exact Kp.refl _) | (with_reducible apply Kp.drew) | (with_reducible apply Kp.drewN) | ((with_reducible apply Kp.setR); (focus (first | (with_reducible assumption) | (simp; done) | (simp; omega)))) | (with_reducible apply Kp.alloc) | ((with_reducible apply Kp.call); (with_reducible assumption)) | ((with_reducible apply Kp.app); (with_reducible assumption)))); done)))
        obtain ⟨W8, hW8⟩ : ∃ W8, W8 = w8 := ⟨_, rfl⟩
        by_cases hln : Q < P
        · have d9 : decide (Q < P) = true := decide_eq_true hln
          have HF : Hid (fixT (.node a l r) k = (evenT (kM (.node a l r)), l.size + r.size + 1, true)) := hide (HFX.out.1 (by rw [HLE.out]; exact d9))
          have HX := hide (kk1.trans kk8)
          clear hln
          go_wp2_with fail
          with_reducible refine (HON.out _ (HTN.out.kp HX.out)).mono ?_
          rintro e w9 ⟨v9, rfl, ho9, hb9⟩
          have kk9 := Kp.of hb9
          have HE9 := hide (evenTree_any (ksT (skel (.node a l r))).length _ v9 w9 (Nat.le_refl _) (by rw [HNN.out]; have := HSB.out; omega) ho9.rd)
          clear ho9 hb9
          go_wp2_with fail
          with_reducible refine HE9.out.mono ?_
          rintro e w10 ⟨p10, rfl, ht10, hb10⟩
          have HT10 := hide ht10
          have kk10 := Kp.of hb10
          clear ht10 hb10
          go_wp2
          go_ret3
          exact ⟨p10, by rw [HF.out]; simp only; rw [HSS.out]; rfl, by rw [HF.out]; have h := HT10.out; rw [ksT_skel] at h; exact h, (HX.out.trans (kk9.trans kk10)).bel⟩
        · have d9 : decide (Q < P) = false := decide_eq_false hln
          have HF : Hid (fixT (.node a l r) k = (.node a l r, 0, false)) := hide (HFX.out.2 (by rw [HLE.out]; exact d9))
          have HX := hide (kk1.trans kk8)
          clear hln
          go_wp2
          go_ret3
          exact ⟨_, by rw [HF.out]; rfl, by rw [HF.out]; exact HTN.out.kp HX.out, HX.out.bel⟩
    · have e1 : (a.1 == k) = true := by simp [heq]
      have HF : Hid (fixT (.node a l r) k = (.node a l r, 0, false)) := hide (by rw [fixT, if_pos heq])
      clear heq
      go_enter Tryd.func42, Tryd.ntmps42
      go_wp2
      go_ret3
      exact ⟨_, by rw [HF.out]; rfl, by rw [HF.out]; exact HTN.out, Below.refl _ _⟩
    · have e1 : (a.1 == k) = false := by simp; omega
      have d1 : decide (k < a.1) = false := decide_eq_false (by omega)
      have hne : ¬ k = a.1 := by omega
      have hnl2 : ¬ k < a.1 := by omega
      cases hf : (fixT r k).2.2 with
      | true =>
        have HF : Hid (fixT (.node a l r) k = (.node a l (fixT r k).1, (fixT r k).2.1, true)) := hide (by rw [fixT, if_neg hne, if_neg hnl2, if_pos hf])
        have HI := hide (HIR.out w HTR.out HLB.out.2)
        obtain ⟨R, hR⟩ : ∃ R, R = fixT r k := ⟨_, rfl⟩
        rw [← hR] at HI HF hf
        obtain ⟨R1, R2, R3⟩ := R
        simp only at hf HF
        subst hf
        clear hR hne hnl2 hgt
        go_enter Tryd.func42, Tryd.ntmps42
        go_wp2_with fail
        with_reducible refine HI.out.mono ?_
        rintro e w1 ⟨p1, rfl, ht1, hb1⟩
        have kk1 := Kp.of hb1
        have HT1 := hide ht1
        have K1 := Kp.refl w1
        have KS2 : Hid (∀ W', Kp w1 W' → (W'.cell? ⟨b, 0, none⟩ = some (.int .i64 a.1) ∧ W'.cell? ⟨b, 1, none⟩ = some (.pointer pl) ∧ W'.cell? ⟨b, 2, none⟩ = some (.pointer pr) ∧ Kp w1 W')) :=
          hide fun W' h => ⟨h.cell (kk1.cell c0), h.cell (kk1.cell c1), h.cell (kk1.cell c2), h⟩
        clear ht1 hb1
        go_wp2_with fail
        go_region_held3 (fun w' => w'.cell? ⟨b, 0, none⟩ = some (.int .i64 a.1) ∧ w'.cell? ⟨b, 1, none⟩ = some (.pointer pl) ∧ w'.cell? ⟨b, 2, none⟩ = some (.pointer pr) ∧ Kp w1 w')
          ((go_split_ands; refine KS2.out _ ?_; (focus ((repeat (first | (with_reducible assumption) | (with_reducible exact Kp.refl _) | (with_reducible apply Kp.drew) | (with_reducible apply Kp.drewN) | ((with_reducible apply Kp.setR); (focus (first | (with_reducible assumption) | (simp; done) | (simp; omega)))) | (with_reducible apply Kp.alloc) | ((with_reducible apply Kp.call); (with_reducible assumption)) | ((with_reducible apply Kp.app); (with_reducible assumption)))); done))))
          (fail)
        all_goals
          go_wp2
          go_ret3
          exact ⟨_, by rw [HF.out]; rfl, by rw [HF.out]; exact TR.kp (t := .node a.1 (skel l) (skel R1)) (TR.mk (HTL.out.kp kk1) HT1.out _) (Kp.refl _).drew, (kk1.trans (by (focus ((repeat (first | (with_reducible assumption) | (with_reducible exact Kp.refl _) | (with_reducible apply Kp.drew) | (with_reducible apply Kp.drewN) | ((with_reducible apply Kp.setR); (focus (first | (with_reducible assumption) | (simp; done) | (simp; omega)))) | (with_reducible apply Kp.alloc) | ((with_reducible apply Kp.call); (with_reducible assumption)) | ((with_reducible apply Kp.app); (with_reducible assumption)))); done)))).bel⟩
      | false =>
        have HFX : Hid ((leans l r = true → fixT (.node a l r) k = (evenT (kM (.node a l r)), l.size + r.size + 1, true)) ∧ (leans l r = false → fixT (.node a l r) k = (.node a l r, 0, false))) := hide (by
          rw [fixT, if_neg hne, if_neg hnl2, if_neg (by simp [hf])]
          exact ⟨fun h => by rw [if_pos h], fun h => by rw [if_neg (by simp [h])]⟩)
        have HI := hide (HIR.out w HTR.out HLB.out.2)
        obtain ⟨R, hR⟩ : ∃ R, R = fixT r k := ⟨_, rfl⟩
        rw [← hR] at HI hf
        obtain ⟨R1, R2, R3⟩ := R
        simp only at hf
        subst hf
        clear hR hne hnl2 hgt
        go_enter Tryd.func42, Tryd.ntmps42
        go_wp2_with fail
        with_reducible refine HI.out.mono ?_
        rintro e w1 ⟨p1, rfl, ht1, hb1⟩
        have kk1 := Kp.of hb1
        clear ht1 hb1
        -- neither below: does it lean itself
        have KS2 : Hid (∀ W', Kp w1 W' → (W'.cell? ⟨b, 0, none⟩ = some (.int .i64 a.1) ∧ W'.cell? ⟨b, 1, none⟩ = some (.pointer pl) ∧ W'.cell? ⟨b, 2, none⟩ = some (.pointer pr) ∧ Kp w1 W')) :=
          hide fun W' h => ⟨h.cell (kk1.cell c0), h.cell (kk1.cell c1), h.cell (kk1.cell c2), h⟩
        have K2 := Kp.refl w1
        go_wp2_with fail
        go_region_held3 (fun w' => w'.cell? ⟨b, 0, none⟩ = some (.int .i64 a.1) ∧ w'.cell? ⟨b, 1, none⟩ = some (.pointer pl) ∧ w'.cell? ⟨b, 2, none⟩ = some (.pointer pr) ∧ Kp w1 w')
          ((go_split_ands; refine KS2.out _ ?_; (focus ((repeat (first | (with_reducible assumption) | (with_reducible exact Kp.refl _) | (with_reducible apply Kp.drew) | (with_reducible apply Kp.drewN) | ((with_reducible apply Kp.setR); (focus (first | (with_reducible assumption) | (simp; done) | (simp; omega)))) | (with_reducible apply Kp.alloc) | ((with_reducible apply Kp.call); (with_reducible assumption)) | ((with_reducible apply Kp.app); (with_reducible assumption)))); done))))
          (first
            | (go_at_call_of 40 (Value.pointer pl); (with_reducible refine (HOL.out _ (HTL.out.kp (kk1.trans ?_))).mono ?_); (go_split_ands; (focus ((repeat (first | (with_reducible assumption) | (with_reducible exact Kp.refl _) | (with_reducible apply Kp.drew) | (with_reducible apply Kp.drewN) | ((with_reducible apply Kp.setR); (focus (first | (with_reducible assumption) | (simp; done) | (simp; omega)))) | (with_reducible apply Kp.alloc) | ((with_reducible apply Kp.call); (with_reducible assumption)) | ((with_reducible apply Kp.app); (with_reducible assumption)))); done))); rintro e w7 ⟨v7, rfl, ho7, hb7⟩; obtain ⟨X7, Y7, rfl, _, _⟩ := ho7.rd.shape)
            | (go_at_call_of 40 (Value.pointer pr); (with_reducible refine (HOR.out _ (HTR.out.kp (kk1.trans ?_))).mono ?_); (go_split_ands; (focus ((repeat (first | (with_reducible assumption) | (with_reducible exact Kp.refl _) | (with_reducible apply Kp.drew) | (with_reducible apply Kp.drewN) | ((with_reducible apply Kp.setR); (focus (first | (with_reducible assumption) | (simp; done) | (simp; omega)))) | (with_reducible apply Kp.alloc) | ((with_reducible apply Kp.call); (with_reducible assumption)) | ((with_reducible apply Kp.app); (with_reducible assumption)))); done))); rintro e w8 ⟨v8, rfl, ho8, hb8⟩; obtain ⟨X8, Y8, rfl, _, _⟩ := ho8.rd.shape))
        have kk8 : Kp w1 w8 := by (go_split_ands; (focus ((repeat (first | (with_reducible assumption) | (with_reducible exact Kp.refl _) | (with_reducible apply Kp.drew) | (with_reducible apply Kp.drewN) | ((with_reducible apply Kp.setR); (focus (first | (with_reducible assumption) | (simp; done) | (simp; omega)))) | (with_reducible apply Kp.alloc) | ((with_reducible apply Kp.call); (with_reducible assumption)) | ((with_reducible apply Kp.app); (with_reducible assumption)))); done)))
        obtain ⟨W8, hW8⟩ : ∃ W8, W8 = w8 := ⟨_, rfl⟩
        by_cases hln : Q < P
        · have d9 : decide (Q < P) = true := decide_eq_true hln
          have HF : Hid (fixT (.node a l r) k = (evenT (kM (.node a l r)), l.size + r.size + 1, true)) := hide (HFX.out.1 (by rw [HLE.out]; exact d9))
          have HX := hide (kk1.trans kk8)
          clear hln
          go_wp2_with fail
          with_reducible refine (HON.out _ (HTN.out.kp HX.out)).mono ?_
          rintro e w9 ⟨v9, rfl, ho9, hb9⟩
          have kk9 := Kp.of hb9
          have HE9 := hide (evenTree_any (ksT (skel (.node a l r))).length _ v9 w9 (Nat.le_refl _) (by rw [HNN.out]; have := HSB.out; omega) ho9.rd)
          clear ho9 hb9
          go_wp2_with fail
          with_reducible refine HE9.out.mono ?_
          rintro e w10 ⟨p10, rfl, ht10, hb10⟩
          have HT10 := hide ht10
          have kk10 := Kp.of hb10
          clear ht10 hb10
          go_wp2
          go_ret3
          exact ⟨p10, by rw [HF.out]; simp only; rw [HSS.out]; rfl, by rw [HF.out]; have h := HT10.out; rw [ksT_skel] at h; exact h, (HX.out.trans (kk9.trans kk10)).bel⟩
        · have d9 : decide (Q < P) = false := decide_eq_false hln
          have HF : Hid (fixT (.node a l r) k = (.node a l r, 0, false)) := hide (HFX.out.2 (by rw [HLE.out]; exact d9))
          have HX := hide (kk1.trans kk8)
          clear hln
          go_wp2
          go_ret3
          exact ⟨_, by rw [HF.out]; rfl, by rw [HF.out]; exact HTN.out.kp HX.out, HX.out.bel⟩
end Go.Proofs.YtpkkajglbklboaaDoor
namespace Go.Proofs.YtpkkajglbklboaaDoor
open Go.ChangeShapes Go.WideShapes Go.ChangeAt Go.RowKit
set_option linter.unusedVariables false
set_option linter.unusedSimpArgs false

/-- Of an op that went well: is the key there. -/
theorem gt_is (ops : List O3) (k : Nat) (hk : k < ops.length) (h2 : k < (runL ops).2.length) (he : ((runL ops).2[k]'h2).err = 0) :
    (ops[k].1 = 1 → (((runL ops).2[k]'h2).is = true ↔ ops[k].2.1 ∈ kM (gtT ((opsZ ops).take k)).T)) ∧ (ops[k].1 = 3 → (((runL ops).2[k]'h2).is = true ↔ ops[k].2.1 ∈ kM (gtT ((opsZ ops).take k)).T)) := by
  have h := gt_step ops k (by omega)
  have ha := runL_ans ops k hk ops.length hk (Nat.le_refl _)
  simp only [List.take_length] at ha
  have ha' := ha h2
  have hoi := op_is (runL (ops.take k)).1 ops[k] h.right
  rw [← ha', ← h.keys] at hoi
  exact ⟨fun h1 => ((hoi he).1 h1).1, (hoi he).2⟩
theorem gt_bounds (ops : List O3) (k : Nat) (hk : k ≤ ops.length) : GtOk (gtT ((opsZ ops).take k)) ∧ (gtT ((opsZ ops).take k)).most ≤ 200 ∧ (gtT ((opsZ ops).take k)).T.size ≤ 200 ∧ (gtT ((opsZ ops).take k)).built ≤ 60 * k + 60 := by
  have h := gt_step ops k hk
  have hc := ct_small ops k hk
  have h1 := h.ok.le
  have h2 := h.ok.many
  have h3 := h.top
  have h4 := h.top2
  have hD := deepF_lt (ctT ((opsZ ops).take k)).top (by omega)
  have hw := h.work 17 (by omega)
  have hp : (gtT ((opsZ ops).take k)).built ≤ pot (gtT ((opsZ ops).take k)) := by unfold pot; omega
  exact ⟨h.ok, by omega, by omega, by omega⟩
def GgdRel (z : List (O3 × An)) (w : World) (tv mv bv iv : Value) (wr : World) : Prop :=
  ∃ (k : Nat) (p : Option Addr), k ≤ z.length ∧ iv = .int .i64 k ∧ tv = .pointer p ∧ TR wr (skel (gtT (z.take k)).T) p ∧ mv = .int .i64 ((gtT (z.take k)).most : Int) ∧ bv = .int .i64 ((gtT (z.take k)).built : Int) ∧ Kp w wr
def GgdPost (S : Gt) (w : World) (e : Ending) (w' : World) : Prop := ∃ p, e = .returned (.tuple #[.pointer p, .int .i64 (S.built : Int)]) ∧ TR w' (skel S.T) p ∧ Below w.heap.size w w'
set_option maxRecDepth 100000 in
set_option maxHeartbeats 8000000 in
theorem goated_any (ops : List O3) (hlen : ops.length ≤ 300) (v u : Value) (w : World) (hr : RD w eOp v ops) (ha : RD w eAns u (runL ops).2) : Calls Tryd.prog 19 #[v, u] w (GgdPost (gtT (opsZ ops)) w) := by
  have hal := runL_len ops ops.length (Nat.le_refl _)
  rw [List.take_length] at hal
  have hzl : (opsZ ops).length = ops.length := by rw [opsZ, List.length_zip, hal]; omega
  have hzk : ∀ k (h : k < (opsZ ops).length) (h1 : k < ops.length) (h2 : k < (runL ops).2.length), (opsZ ops)[k] = (ops[k], (runL ops).2[k]) := fun k h h1 h2 => by simp [opsZ]
  have his := fun k hk h2 he => gt_is ops k hk h2 he
  have hbd := fun k hk => gt_bounds ops k hk
  obtain ⟨z, hz⟩ : ∃ z, z = opsZ ops := ⟨_, rfl⟩
  rw [← hz] at hzl hzk his hbd ⊢
  obtain ⟨an, han⟩ : ∃ a, a = (runL ops).2 := ⟨_, rfl⟩
  have HZK : Hid (∀ k (h : k < z.length) (h1 : k < ops.length) (h2 : k < an.length), z[k] = (ops[k], an[k])) := hide (by subst han; exact hzk)
  have HIS : Hid (∀ k (hk : k < ops.length) (h2 : k < an.length), (an[k]'h2).err = 0 → (ops[k].1 = 1 → ((an[k]'h2).is = true ↔ ops[k].2.1 ∈ kM (gtT (z.take k)).T)) ∧ (ops[k].1 = 3 → ((an[k]'h2).is = true ↔ ops[k].2.1 ∈ kM (gtT (z.take k)).T))) := hide (by subst han; exact his)
  rw [← han] at hal ha
  have HBD := hide hbd
  have HZL := hide hzl
  have HAL := hide hal
  have HTL : Hid (z.take z.length = z) := hide (List.take_length)
  have HLEN := hide hlen
  obtain ⟨A, c, rfl, hc, hm⟩ := hr.shape
  obtain ⟨A2, c2, rfl, hc2, hm2⟩ := ha.shape
  have HR := hide hr
  have HU := hide ha
  have hcc : an.length ≤ 9223372036854775807 := by omega
  clear hal hzl hzk his hbd hz han hr ha hlen
  go_enter Tryd.func19, Tryd.ntmps19
  go_wp2
  go_loopw [6, 7, 8, 18] (GgdRel z w) (fun _ _ _ i _ => z.length - (intOf i).toNat)
  case atStart => exact ⟨0, none, by omega, rfl, rfl, rfl, rfl, rfl, Kp.refl _⟩
  case round =>
    obtain ⟨k, p, hk, rfl, rfl, ht, rfl, rfl, hkp⟩ := hrel
    by_cases hlt : k < z.length
    · have hko : k < ops.length := by rw [← HZL.out]; exact hlt
      have hka : k < an.length := by rw [HAL.out]; exact hko
      have dk : decide (k < ops.length) = true := by simp [hko]
      have bka : (k : Int) < (an.length : Int) := by omega
      have bk0 : (0 : Int) ≤ (k : Int) := by omega
      obtain ⟨b, o, rfl, _, x0, x1, x2⟩ := (HR.out.kp hkp).op hko
      obtain ⟨b2, o2, rfl, _, y0, y1, y2, y3⟩ := (HU.out.kp hkp).ans hka
      have kal := (Kp.refl wr).alloc (o := .cells #[.int .i64 ops[k].1, .int .i64 ops[k].2.1, .int .i64 ops[k].2.2] 30)
      have y0' := kal.cell y0
      have y1' := kal.cell y1
      have y2' := kal.cell y2
      have y3' := kal.cell y3
      have hst := gtT_snoc z k hlt
      rw [HZK.out k hlt hko hka] at hst
      simp only at hst
      have hisk := HIS.out k hko hka
      have hbdk := HBD.out k (by omega)
      have hkl := HLEN.out
      obtain ⟨S, hS⟩ : ∃ S, S = gtT (z.take k) := ⟨_, rfl⟩
      rw [← hS] at hst hisk hbdk ht ⊢
      obtain ⟨aa, haa⟩ : ∃ aa, aa = an[k] := ⟨_, rfl⟩
      rw [← haa] at hst hisk y0 y1 y2 y3 y0' y1' y2' y3'
      obtain ⟨oo, hoo⟩ : ∃ oo, oo = ops[k] := ⟨_, rfl⟩
      rw [← hoo] at hst hisk x0 x1 x2 y0' y1' y2' y3'
      obtain ⟨er, ak, av, ib⟩ := aa
      obtain ⟨kd, ky, vl⟩ := oo
      simp only at hst hisk x0 x1 x2 y0 y1 y2 y3 y0' y1' y2' y3' ⊢
      obtain ⟨hok, hmo, hsz, hbu⟩ := hbdk
      have HT := hide ht
      have HKP := hide hkp
      have HOK := hide hok
      have HNB : Hid (S.most ≤ 200 ∧ S.T.size ≤ 200 ∧ S.built ≤ 100000 ∧ S.many = S.T.size) := hide ⟨hmo, hsz, by omega, hok.many⟩
      clear hS haa hoo hkp ht kal hok hmo hsz hbu
      by_cases he : er = 0
      · have d1 : (er != 0) = false := by simp [he]
        rw [gtS, if_neg (by simpa using he)] at hst
        obtain ⟨i1, i3⟩ := hisk he
        by_cases h1 : kd = 1
        · have d2 : (kd == 1) = true := by simp [h1]
          have d3 : (kd == 3) = false := by simp; omega
          simp only at hst
          rw [if_pos h1] at hst
          cases ib with
          | true =>
            have hin := (i1 h1).1 rfl
            have HS : Hid (gtT (z.take (k + 1)) = S) := hide (by rw [hst]; unfold Gt.put; rw [if_pos hin])
            clear hst i1 i3 he h1 hisk hin
            go_wp2
            go_roundw
            case rel => exact ⟨k + 1, p, by omega, by go_num, rfl, by rw [HS.out]; exact HT.out.kp (by (focus ((repeat (first | (with_reducible assumption) | (with_reducible exact Kp.refl _) | (with_reducible apply Kp.drew) | (with_reducible apply Kp.drewN) | ((with_reducible apply Kp.setR); (focus (first | (with_reducible assumption) | (simp; done) | (simp; omega)))) | (with_reducible apply Kp.alloc) | ((with_reducible apply Kp.call); (with_reducible assumption)) | ((with_reducible apply Kp.app); (with_reducible assumption)))); done))), by rw [HS.out], by rw [HS.out], HKP.out.trans (by (focus ((repeat (first | (with_reducible assumption) | (with_reducible exact Kp.refl _) | (with_reducible apply Kp.drew) | (with_reducible apply Kp.drewN) | ((with_reducible apply Kp.setR); (focus (first | (with_reducible assumption) | (simp; done) | (simp; omega)))) | (with_reducible apply Kp.alloc) | ((with_reducible apply Kp.call); (with_reducible assumption)) | ((with_reducible apply Kp.app); (with_reducible assumption)))); done)))⟩
            case measure => simp [intOf]; omega
          | false =>
            have hni : ky ∉ kM S.T := fun h => by have := (i1 h1).2 h; cases this
            have hT1 := ins_new_size S.T ky HOK.out.up hni
            have hup1 : Up (kM (ins S.T (ky, 0))) := by rw [kM_ins _ _ HOK.out.up]; exact up_ins HOK.out.up ky
            have hki : ky ∈ kM (ins S.T (ky, 0)) := by rw [kM_ins _ _ HOK.out.up]; simp [ksIns]
            have hli := lenT_ins S.T ky hni
            have hsk := skel_ins S.T (ky, 0)
            simp only at hsk
            have hnb := HNB.out
            obtain ⟨mo', hmo'⟩ : ∃ x, x = max S.most (S.many + 1) := ⟨_, rfl⟩
            have HPUT : Hid (gtT (z.take (k + 1)) = if lenT S.T ky ≤ deepF mo' then ⟨ins S.T (ky, 0), S.many + 1, mo', S.built⟩ else ⟨(fixT (ins S.T (ky, 0)) ky).1, S.many + 1, mo', S.built + (fixT (ins S.T (ky, 0)) ky).2.1⟩) := hide (by rw [hst]; unfold Gt.put; rw [if_neg hni, hmo'])
            obtain ⟨T1, hT1e⟩ : ∃ T1, T1 = ins S.T (ky, 0) := ⟨_, rfl⟩
            rw [← hT1e] at hT1 hup1 hki hli hsk HPUT
            have HLF := hide (fun W (h : Kp wr W) => leaf_any (skel S.T) p ky W (HT.out.kp h))
            rw [hsk] at HLF
            have hmo2 : mo' ≤ 201 := by rw [hmo']; omega
            have hfs := fixT_size T1 ky
            have hfn : (fixT T1 ky).2.1 ≤ 201 := by
              have h9 : ∀ (t : MT IP) (k : Int), (fixT t k).2.1 ≤ t.size := by
                intro t
                induction t with
                | nil => intro k; simp [fixT]
                | node a l r i1 i2 =>
                  intro k
                  have j1 := i1 k
                  have j2 := i2 k
                  unfold fixT
                  simp only [MT.size]
                  split
                  · simp
                  · split
                    · split
                      · simp only; omega
                      · split
                        · simp only; omega
                        · simp
                    · split
                      · simp only; omega
                      · split
                        · simp only; omega
                        · simp
              have := h9 T1 ky
              omega
            have HIO := hide (fun p W h => inOrder_any (skel T1) p W h (by rw [skel_size]; omega))
            have hkl2 : (ksT (skel T1)).length = S.many + 1 := by rw [ksT_len, skel_size, hT1, hnb.2.2.2]
            have HDI := hide (fun p W h => depthIn_any T1 p ky W hup1 hki (by omega) h)
            rw [hli] at HDI
            have HDO := hide (fun W => deepestOf_any mo' (by omega) W)
            have HBA := hide (fun p W h => builtAnew_any T1 p ky W h (by omega))
            obtain ⟨L1, hL1⟩ : ∃ x, x = lenT S.T ky := ⟨_, rfl⟩
            obtain ⟨D1, hD1⟩ : ∃ x, x = deepF mo' := ⟨_, rfl⟩
            rw [← hL1] at HPUT HDI
            rw [← hD1] at HPUT HDO
            have v4 : max (S.most : Int) ((S.many : Int) + 1) = (mo' : Int) := by rw [hmo']; omega
            clear hst i1 i3 he h1 hisk hni hT1 hup1 hki hli hsk hnb hmo' hT1e hfs hL1 hD1
            go_wp2_with fail
            with_reducible refine (HLF.out _ ?_).mono ?_
            · (focus ((repeat (first | (with_reducible assumption) | (with_reducible exact Kp.refl _) | (with_reducible apply Kp.drew) | (with_reducible apply Kp.drewN) | ((with_reducible apply Kp.setR); (focus (first | (with_reducible assumption) | (simp; done) | (simp; omega)))) | (with_reducible apply Kp.alloc) | ((with_reducible apply Kp.call); (with_reducible assumption)) | ((with_reducible apply Kp.app); (with_reducible assumption)))); done))
            rintro e w6 ⟨p6, rfl, ht6, hb6⟩
            have kk6 : Kp wr w6 := by
              have := Kp.of hb6
              exact Kp.trans (by (focus ((repeat (first | (with_reducible assumption) | (with_reducible exact Kp.refl _) | (with_reducible apply Kp.drew) | (with_reducible apply Kp.drewN) | ((with_reducible apply Kp.setR); (focus (first | (with_reducible assumption) | (simp; done) | (simp; omega)))) | (with_reducible apply Kp.alloc) | ((with_reducible apply Kp.call); (with_reducible assumption)) | ((with_reducible apply Kp.app); (with_reducible assumption)))); done))) this
            have q6 : w6.cell? ⟨wr.heap.size, 1, none⟩ = some (.int .i64 ky) := (Kp.of hb6).cell (((Kp.refl _).alloc).cell (cell_of_row _ _ 1 _ _ (0, 0) (heap_alloc_new wr _)))
            have HT6 := hide ht6
            clear ht6 hb6
            go_wp2_with fail
            with_reducible refine (HIO.out _ _ HT6.out).mono ?_
            rintro e w7 ⟨v7, rfl, ho7, hb7⟩
            have kk7 := Kp.of hb7
            obtain ⟨X7, Y7, rfl, _, _⟩ := ho7.rd.shape
            have q7 := kk7.cell q6
            clear ho7 hb7
            go_wp2_with fail
            with_reducible refine (HDI.out _ _ (HT6.out.kp kk7)).mono ?_
            rintro e w8 ⟨rfl, hb8⟩
            have kk8 := Kp.of hb8
            have q8 := kk8.cell q7
            clear hb8
            go_wp2_with fail
            with_reducible refine (HDO.out _).mono ?_
            rintro e w9 ⟨rfl, rfl⟩
            by_cases hLD : L1 ≤ D1
            · have q1 : decide (D1 < L1) = false := decide_eq_false (by omega)
              have q2 : ¬ (D1 : Int) < (L1 : Int) := by omega
              have HS : Hid (gtT (z.take (k + 1)) = ⟨T1, S.many + 1, mo', S.built⟩) := hide (by rw [HPUT.out, if_pos hLD])
              clear hLD
              go_wp2
              go_roundw
              case rel => exact ⟨k + 1, p6, by omega, by go_num, rfl, by rw [HS.out]; exact HT6.out.kp (kk7.trans kk8), by rw [HS.out], by rw [HS.out], HKP.out.trans (kk6.trans (kk7.trans kk8))⟩
              case measure => simp [intOf]; omega
            · have q1 : decide (D1 < L1) = true := decide_eq_true (by omega)
              have q2 : (D1 : Int) < (L1 : Int) := by omega
              have HS : Hid (gtT (z.take (k + 1)) = ⟨(fixT T1 ky).1, S.many + 1, mo', S.built + (fixT T1 ky).2.1⟩) := hide (by rw [HPUT.out, if_neg hLD])
              clear hLD
              go_wp2_with fail
              with_reducible refine (HBA.out _ _ (HT6.out.kp (kk7.trans kk8))).mono ?_
              rintro e w10 ⟨p10, rfl, ht10, hb10⟩
              have kk10 := Kp.of hb10
              have HT10 := hide ht10
              obtain ⟨fn, hfne⟩ : ∃ x, x = (fixT T1 ky).2.1 := ⟨_, rfl⟩
              rw [← hfne] at HS hfn ⊢
              have v5 : IntKind.i64.wrap ((S.built : Int) + (fn : Int)) = ((S.built + fn : Nat) : Int) := by rw [IntWalk.i64_in _ (by have := HNB.out; omega)]; omega
              clear ht10 hb10 hfne
              go_wp2
              go_roundw
              case rel => exact ⟨k + 1, p10, by omega, by go_num, rfl, by rw [HS.out]; exact HT10.out, by rw [HS.out], by first | (rw [HS.out]; done) | (rw [HS.out]; first | rfl | go_num), HKP.out.trans (kk6.trans (kk7.trans (kk8.trans kk10)))⟩
              case measure => simp [intOf]; omega
        · have d2 : (kd == 1) = false := by simp [h1]
          simp only at hst
          rw [if_neg h1] at hst
          by_cases h3 : kd = 3
          · have d3 : (kd == 3) = true := by simp [h3]
            rw [if_pos h3] at hst
            cases ib with
            | false =>
              have hni : ky ∉ kM S.T := fun h => by have := (i3 h3).2 h; cases this
              have HS : Hid (gtT (z.take (k + 1)) = S) := hide (by rw [hst]; unfold Gt.cut; rw [if_pos hni])
              clear hst i1 i3 he h1 h3 hisk hni
              go_wp2
              go_roundw
              case rel => exact ⟨k + 1, p, by omega, by go_num, rfl, by rw [HS.out]; exact HT.out.kp (by (focus ((repeat (first | (with_reducible assumption) | (with_reducible exact Kp.refl _) | (with_reducible apply Kp.drew) | (with_reducible apply Kp.drewN) | ((with_reducible apply Kp.setR); (focus (first | (with_reducible assumption) | (simp; done) | (simp; omega)))) | (with_reducible apply Kp.alloc) | ((with_reducible apply Kp.call); (with_reducible assumption)) | ((with_reducible apply Kp.app); (with_reducible assumption)))); done))), by rw [HS.out], by rw [HS.out], HKP.out.trans (by (focus ((repeat (first | (with_reducible assumption) | (with_reducible exact Kp.refl _) | (with_reducible apply Kp.drew) | (with_reducible apply Kp.drewN) | ((with_reducible apply Kp.setR); (focus (first | (with_reducible assumption) | (simp; done) | (simp; omega)))) | (with_reducible apply Kp.alloc) | ((with_reducible apply Kp.call); (with_reducible assumption)) | ((with_reducible apply Kp.app); (with_reducible assumption)))); done)))⟩
              case measure => simp [intOf]; omega
            | true =>
              have hin := (i3 h3).1 rfl
              have hds := del_sz S.T ky HOK.out.up hin
              have hnb := HNB.out
              have hsd := skel_del S.T ky HOK.out.up
              obtain ⟨m1, hm1⟩ : ∃ m1, S.many = m1 + 1 := ⟨S.many - 1, by omega⟩
              have hdm : (del S.T ky).size = m1 := by omega
              obtain ⟨P3, hP3⟩ : ∃ x, x = 3 * m1 := ⟨_, rfl⟩
              obtain ⟨Q2, hQ2⟩ : ∃ x, x = 2 * S.most := ⟨_, rfl⟩
              have HCUT : Hid (gtT (z.take (k + 1)) = if P3 < Q2 then ⟨evenT (kM (del S.T ky)), m1, m1, S.built + m1⟩ else ⟨del S.T ky, m1, S.most, S.built⟩) := hide (by
                rw [hst]
                unfold Gt.cut
                rw [if_neg (by simpa using hin), show S.many - 1 = m1 by omega, hP3, hQ2])
              obtain ⟨T1, hT1e⟩ : ∃ T1, T1 = del S.T ky := ⟨_, rfl⟩
              rw [← hT1e] at hsd hdm HCUT
              have HUN := hide (fun W (h : Kp wr W) => unl_any (skel S.T) p ky W (HT.out.kp h))
              rw [hsd] at HUN
              have HIO := hide (fun p W h => inOrder_any (skel T1) p W h (by rw [skel_size]; omega))
              have hkl2 : (ksT (skel T1)).length = m1 := by rw [ksT_len, skel_size, hdm]
              have HKS : Hid (ksT (skel T1) = kM T1) := hide (ksT_skel T1)
              have HM1 : Hid (m1 ≤ 200) := hide (by omega)
              have v1 : IntKind.i64.wrap (3 * (m1 : Int)) = (P3 : Int) := by rw [IntWalk.i64_in _ (by omega)]; omega
              have v2 : IntKind.i64.wrap (2 * (S.most : Int)) = (Q2 : Int) := by rw [IntWalk.i64_in _ (by omega)]; omega
              have v3 : IntKind.i64.wrap ((S.built : Int) + (m1 : Int)) = ((S.built + m1 : Nat) : Int) := by rw [IntWalk.i64_in _ (by omega)]; omega
              clear hst i1 i3 he h1 h3 hisk hin hds hnb hsd hm1 hdm hP3 hQ2 hT1e
              go_wp2_with fail
              with_reducible refine (HUN.out _ ?_).mono ?_
              · (focus ((repeat (first | (with_reducible assumption) | (with_reducible exact Kp.refl _) | (with_reducible apply Kp.drew) | (with_reducible apply Kp.drewN) | ((with_reducible apply Kp.setR); (focus (first | (with_reducible assumption) | (simp; done) | (simp; omega)))) | (with_reducible apply Kp.alloc) | ((with_reducible apply Kp.call); (with_reducible assumption)) | ((with_reducible apply Kp.app); (with_reducible assumption)))); done))
              rintro e w6 ⟨p6, rfl, ht6, hb6⟩
              have kk6 : Kp wr w6 := by
                have := Kp.of hb6
                exact Kp.trans (by (focus ((repeat (first | (with_reducible assumption) | (with_reducible exact Kp.refl _) | (with_reducible apply Kp.drew) | (with_reducible apply Kp.drewN) | ((with_reducible apply Kp.setR); (focus (first | (with_reducible assumption) | (simp; done) | (simp; omega)))) | (with_reducible apply Kp.alloc) | ((with_reducible apply Kp.call); (with_reducible assumption)) | ((with_reducible apply Kp.app); (with_reducible assumption)))); done))) this
              have HT6 := hide ht6
              clear ht6 hb6
              go_wp2_with fail
              with_reducible refine (HIO.out _ _ HT6.out).mono ?_
              rintro e w7 ⟨v7, rfl, ho7, hb7⟩
              have kk7 := Kp.of hb7
              obtain ⟨X7, Y7, rfl, _, _⟩ := ho7.rd.shape
              clear ho7 hb7
              by_cases hpq : P3 < Q2
              · have q1 : decide (P3 < Q2) = true := decide_eq_true hpq
                have HS : Hid (gtT (z.take (k + 1)) = ⟨evenT (kM T1), m1, m1, S.built + m1⟩) := hide (by rw [HCUT.out, if_pos hpq])
                clear hpq
                go_wp2_with fail
                with_reducible refine (HIO.out _ _ (HT6.out.kp kk7)).mono ?_
                rintro e w8 ⟨v8, rfl, ho8, hb8⟩
                have kk8 := Kp.of hb8
                have HE8 := hide (evenTree_any (ksT (skel T1)).length _ v8 w8 (Nat.le_refl _) (by rw [hkl2]; have := HM1.out; omega) ho8.rd)
                clear ho8 hb8
                go_wp2_with fail
                with_reducible refine HE8.out.mono ?_
                rintro e w9 ⟨p9, rfl, ht9, hb9⟩
                have kk9 := Kp.of hb9
                have HT9 := hide ht9
                clear ht9 hb9
                go_wp2
                go_roundw
                case rel => exact ⟨k + 1, p9, by omega, by go_num, rfl, by rw [HS.out]; have h := HT9.out; rw [HKS.out] at h; exact h, by rw [HS.out], by first | (rw [HS.out]; done) | (rw [HS.out]; first | rfl | go_num), HKP.out.trans (kk6.trans (kk7.trans (kk8.trans kk9)))⟩
                case measure => simp [intOf]; omega
              · have q1 : decide (P3 < Q2) = false := decide_eq_false hpq
                have HS : Hid (gtT (z.take (k + 1)) = ⟨T1, m1, S.most, S.built⟩) := hide (by rw [HCUT.out, if_neg hpq])
                clear hpq
                go_wp2
                go_roundw
                case rel => exact ⟨k + 1, p6, by omega, by go_num, rfl, by rw [HS.out]; exact HT6.out.kp kk7, by rw [HS.out], by rw [HS.out], HKP.out.trans (kk6.trans kk7)⟩
                case measure => simp [intOf]; omega
          · have d3 : (kd == 3) = false := by simp [h3]
            rw [if_neg h3] at hst
            have HS : Hid (gtT (z.take (k + 1)) = S) := hide hst
            clear hst i1 i3 he h1 h3 hisk
            go_wp2
            go_roundw
            case rel => exact ⟨k + 1, p, by omega, by go_num, rfl, by rw [HS.out]; exact HT.out.kp (by (focus ((repeat (first | (with_reducible assumption) | (with_reducible exact Kp.refl _) | (with_reducible apply Kp.drew) | (with_reducible apply Kp.drewN) | ((with_reducible apply Kp.setR); (focus (first | (with_reducible assumption) | (simp; done) | (simp; omega)))) | (with_reducible apply Kp.alloc) | ((with_reducible apply Kp.call); (with_reducible assumption)) | ((with_reducible apply Kp.app); (with_reducible assumption)))); done))), by rw [HS.out], by rw [HS.out], HKP.out.trans (by (focus ((repeat (first | (with_reducible assumption) | (with_reducible exact Kp.refl _) | (with_reducible apply Kp.drew) | (with_reducible apply Kp.drewN) | ((with_reducible apply Kp.setR); (focus (first | (with_reducible assumption) | (simp; done) | (simp; omega)))) | (with_reducible apply Kp.alloc) | ((with_reducible apply Kp.call); (with_reducible assumption)) | ((with_reducible apply Kp.app); (with_reducible assumption)))); done)))⟩
            case measure => simp [intOf]; omega
      · have d1 : (er != 0) = true := by simp [he]
        have HS : Hid (gtT (z.take (k + 1)) = S) := hide (by rw [hst, gtS, if_pos (by simpa using he)])
        clear hst he hisk
        go_wp2
        go_roundw
        case rel => exact ⟨k + 1, p, by omega, by go_num, rfl, by rw [HS.out]; exact HT.out.kp (by (focus ((repeat (first | (with_reducible assumption) | (with_reducible exact Kp.refl _) | (with_reducible apply Kp.drew) | (with_reducible apply Kp.drewN) | ((with_reducible apply Kp.setR); (focus (first | (with_reducible assumption) | (simp; done) | (simp; omega)))) | (with_reducible apply Kp.alloc) | ((with_reducible apply Kp.call); (with_reducible assumption)) | ((with_reducible apply Kp.app); (with_reducible assumption)))); done))), by rw [HS.out], by rw [HS.out], HKP.out.trans (by (focus ((repeat (first | (with_reducible assumption) | (with_reducible exact Kp.refl _) | (with_reducible apply Kp.drew) | (with_reducible apply Kp.drewN) | ((with_reducible apply Kp.setR); (focus (first | (with_reducible assumption) | (simp; done) | (simp; omega)))) | (with_reducible apply Kp.alloc) | ((with_reducible apply Kp.call); (with_reducible assumption)) | ((with_reducible apply Kp.app); (with_reducible assumption)))); done)))⟩
        case measure => simp [intOf]; omega
    · obtain rfl : k = z.length := by omega
      have dk : decide (z.length < ops.length) = false := by have := HZL.out; simp; omega
      rw [HTL.out] at ht
      rw [HTL.out]
      have HT := hide ht
      clear ht
      go_wp2
      go_ret2
      exact ⟨p, rfl, HT.out, hkp.bel⟩
end Go.Proofs.YtpkkajglbklboaaDoor
namespace Go.Proofs.YtpkkajglbklboaaDoor
open Go.ChangeShapes Go.WideShapes Go.ChangeAt Go.RowKit
set_option linter.unusedVariables false
set_option linter.unusedSimpArgs false

theorem krF_pair : ∀ (l : List Int) (la : Int), krF la l = 0 → l.Pairwise (· < ·) ∧ ∀ x ∈ l, la < x ∧ x ≤ 1000000
  | [], _, _ => ⟨List.Pairwise.nil, fun x hx => by cases hx⟩
  | y :: t, la, h => by
    unfold krF at h
    split at h
    · next hc =>
      obtain ⟨h1, h2⟩ := krF_pair t y h
      refine ⟨List.Pairwise.cons (fun x hx => (h2 x hx).1) h1, fun x hx => ?_⟩
      rcases List.mem_cons.1 hx with rfl | hx
      · omega
      · have := h2 x hx; omega
    · omega
theorem krL_in {l : List Int} (h : krL l = 0) : l.length ≤ 200 ∧ l.Pairwise (· < ·) ∧ ∀ x ∈ l, 0 ≤ x ∧ x ≤ 1000000 := by
  unfold krL at h
  split at h
  · omega
  · next hl =>
    obtain ⟨h1, h2⟩ := krF_pair l (-1) h
    exact ⟨by omega, h1, fun x hx => by have := h2 x hx; omega⟩
end Go.Proofs.YtpkkajglbklboaaDoor
namespace Go.Proofs.YtpkkajglbklboaaDoor
open Go.ChangeShapes Go.WideShapes Go.ChangeAt Go.RowKit
set_option linter.unusedVariables false
set_option linter.unusedSimpArgs false

def CtRel (n : Nat) (w : World) (i : Value) (wr : World) : Prop := ∃ k : Nat, k ≤ n ∧ i = .int .i64 k ∧ Kp w wr
set_option maxHeartbeats 1000000 in
theorem eqAns_same (l : List An) (v u : Value) (w : World) (hl : RD w eAns v l) (hm : RD w eAns u l) : Calls Tryd.prog 20 #[v, u] w (Ret (.bool true) w) := by
  obtain ⟨A, c, rfl, hc, hc'⟩ := hl.shape
  obtain ⟨A2, c2, rfl, hc2, hc2'⟩ := hm.shape
  have HL := hide hl
  have HM := hide hm
  clear hl hm
  have hn : ((l.length : Int) != (l.length : Int)) = false := by simp
  go_enter Tryd.func20, Tryd.ntmps20
  go_wp2
  go_loopw [13] (CtRel l.length w) (fun i wr => l.length - (intOf i).toNat)
  case atStart => exact ⟨0, by omega, rfl, Kp.refl _⟩
  case round =>
    obtain ⟨k, hk, rfl, hkp⟩ := hrel
    by_cases hlt : k < l.length
    · obtain ⟨b, o, rfl, hb, c0, c1, c4, c3⟩ := (HL.out.kp hkp).ans hlt
      obtain ⟨b2, o2, rfl, hb2, d0, d1, d2, d3⟩ := (HM.out.kp hkp).ans hlt
      go_wp2_with fail
      go_quiet (fail)
      go_wp2
      go_roundw
      case rel => exact ⟨k + 1, by omega, by go_num, by (focus ((repeat (first | (with_reducible assumption) | (with_reducible exact Kp.refl _) | (with_reducible apply Kp.drew) | (with_reducible apply Kp.drewN) | ((with_reducible apply Kp.setR); (focus (first | (with_reducible assumption) | (simp; done) | (simp; omega)))) | (with_reducible apply Kp.alloc) | ((with_reducible apply Kp.call); (with_reducible assumption)) | ((with_reducible apply Kp.app); (with_reducible assumption)))); done))⟩
      case measure => simp [intOf]; omega
    · go_wp2
      go_ret
      exact ⟨rfl, hkp.bel⟩
end Go.Proofs.YtpkkajglbklboaaDoor
namespace Go.Proofs.YtpkkajglbklboaaDoor
open Go.ChangeShapes Go.WideShapes Go.ChangeAt Go.RowKit
set_option linter.unusedVariables false
set_option linter.unusedSimpArgs false

set_option maxRecDepth 100000 in
set_option maxHeartbeats 8000000 in
theorem goatSays_walk (ks : List Int) (many : Int) (ops : List O3) (v u : Value) (w : World) (hr : RD w eInt v ks) (hmany : -9223372036854775808 ≤ many ∧ many ≤ 9223372036854775807) (hu : RD w eOp u ops) (hdb : DTb w) : Calls Tryd.prog 4 #[v, .int .i64 many, u] w (Ret (.bool true) w) := by
  obtain ⟨A, c, rfl, hc, hm⟩ := hr.shape
  obtain ⟨Ao, co, rfl, hco, hmo⟩ := hu.shape
  have HR := hide hr
  have HO := hide hu
  have HDB := hide hdb
  clear hr hu hdb hmany
  have HEV := hide (fun W v h hd => gtEvenF_any ks v W h hd)
  have HDE := hide (fun W => gtDeep_any many W)
  have HRU := hide (fun W v h => goatRun_any ops v W h)
  have HKR := hide (fun W v h => keysRight_any ks v W h)
  have HEA : Hid ((krL ks = 0 → ks.length ≤ 200 ∧ evenA ks = ((evenT ks).spotsBy Prod.fst 0, 0)) ∧ (krL ks ≠ 0 → evenA ks = ([], krL ks))) := hide ⟨fun h => ⟨krL_len h, by rw [evenA, if_pos h]⟩, fun h => by rw [evenA, if_neg h]⟩
  have HDA : Hid ((0 ≤ many ∧ many ≤ 200 → deepA many = ((deepF many.toNat : Int), 0)) ∧ (¬ (0 ≤ many ∧ many ≤ 200) → deepA many = (0, 1))) := hide ⟨fun h => by unfold deepA; rw [if_neg (by omega)], fun h => by unfold deepA; rw [if_pos (by omega)]⟩
  have HGR : Hid ((ops.length > 300 → goatRun ops = ([], 0, [], 2)) ∧ (¬ ops.length > 300 → goatRun ops = ((gtT (opsZ ops)).T.spotsBy Prod.fst 0, ((gtT (opsZ ops)).built : Int), (runL ops).2, 0))) := hide ⟨fun h => by rw [goatRun, if_pos h], fun h => by rw [goatRun, if_neg h]⟩
  obtain ⟨EA, hEA⟩ : ∃ x, x = evenA ks := ⟨_, rfl⟩
  obtain ⟨DA, hDA⟩ : ∃ x, x = deepA many := ⟨_, rfl⟩
  obtain ⟨GA, hGA⟩ : ∃ x, x = goatRun ops := ⟨_, rfl⟩
  obtain ⟨KR, hKR⟩ : ∃ x, x = krL ks := ⟨_, rfl⟩
  rw [← hEA] at HEV HEA
  rw [← hDA] at HDE HDA
  rw [← hGA] at HRU HGR
  rw [← hKR] at HKR HEA
  clear hEA hDA hGA hKR
  obtain ⟨ev, ee⟩ := EA
  obtain ⟨dd, de⟩ := DA
  obtain ⟨gs, gb, ga, ge⟩ := GA
  go_enter Tryd.func4, Tryd.ntmps4
  go_wp2_with fail
  with_reducible refine (HEV.out _ _ HR.out HDB.out).mono ?_
  rintro e w1 ⟨v1, rfl, hr1, hb1⟩
  have kk1 := Kp.of hb1
  obtain ⟨A1, c1, rfl, _, _⟩ := hr1.shape
  have HR1 := hide hr1
  clear hr1 hb1
  go_wp2_with fail
  with_reducible refine (HDE.out _).mono ?_
  rintro e w2 ⟨rfl, rfl⟩
  go_wp2_with fail
  with_reducible refine (HRU.out _ _ (HO.out.kp kk1)).mono ?_
  rintro e w3 ⟨v3, u3, rfl, hr3, hu3, hb3⟩
  have kk3 := Kp.of hb3
  obtain ⟨A3, c3, rfl, _, _⟩ := hr3.shape
  obtain ⟨B3, d3, rfl, _, _⟩ := hu3.shape
  have HR3 := hide hr3
  have HU3 := hide hu3
  clear hr3 hu3 hb3
  go_wp2_with fail
  with_reducible refine (HKR.out _ _ (HR.out.kp (kk1.trans kk3))).mono ?_
  rintro e w4 ⟨rfl, hb4⟩
  have kk4 := Kp.of hb4
  clear hb4
  have HK4 := hide (kk1.trans (kk3.trans kk4))
  have HR14 := hide (HR1.out.kp (kk3.trans kk4))
  have HR34 := hide (HR3.out.kp kk4)
  have HU34 := hide (HU3.out.kp kk4)
  have HR4 := hide (HR.out.kp (kk1.trans (kk3.trans kk4)))
  have HO4 := hide (HO.out.kp (kk1.trans (kk3.trans kk4)))
  clear kk1 kk3 kk4 HR1 HR3 HU3 HR HO HEV HDE HRU HKR
  go_upto_if 40 with fail
  go_cut [] (fun wx => Kp w4 wx)
  case first =>
    by_cases h0 : KR = 0
    · obtain ⟨hl, he⟩ := HEA.out.1 h0
      injection he with e1 e2
      have d1 : (KR != 0) = false := by simp [h0]
      have d2 : (ee != 0) = false := by simp [e2]
      have HE1 := hide e1
      have HET := hide (fun W h => evenTree_any ks.length ks (.slice A ks.length c) W (Nat.le_refl _) (by omega) h)
      have HSZ : Hid ((0 : Int) + (skel (evenT ks)).size ≤ 1073741824) := hide (by rw [skel_size, evenT_size]; omega)
      clear hl HEA e1 e2 h0
      go_wp2_with fail
      with_reducible refine (HET.out _ HR4.out).mono ?_
      rintro e w5 ⟨p5, rfl, ht5, hb5⟩
      have kk5 := Kp.of hb5
      have HT5 := hide ht5
      clear ht5 hb5
      go_wp2_with fail
      with_reducible refine (spots_any (skel (evenT ks)) p5 0 _ HT5.out (by omega) HSZ.out).mono ?_
      rintro e w6 ⟨v6, rfl, ho6, hb6⟩
      have kk6 := Kp.of hb6
      have HR6 := hide ho6.rd
      clear ho6 hb6
      go_wp2_with fail
      refine (sameSpots_to ev ((skel (evenT ks)).spots 0) true _ _ _ (HR14.out.kp (kk5.trans kk6)) HR6.out (by rw [skel_spots, HE1.out]; simp)).mono ?_
      rintro e w7 ⟨rfl, hb7⟩
      have kk7 := Kp.of hb7
      clear hb7
      go_wp2_with fail
      go_meet
      exact kk5.trans (kk6.trans kk7)
    · have he := HEA.out.2 h0
      injection he with e1 e2
      have d1 : (KR != 0) = true := by simpa using h0
      have d2 : (ee != KR) = false := by simp [e2]
      have d3 : ((ev.length : Int) != 0) = false := by simp [e1]
      clear h0 HEA e1 e2
      go_wp2_with fail
      go_meet
      exact Kp.refl _
  case rest =>
    have KB : Hid (Kp w4 wc) := hide hcut
    clear hcut HEA
    go_wp2_with fail
    with_reducible refine (between_any many 0 200 _).mono ?_
    rintro e w5 ⟨rfl, rfl⟩
    go_upto_if 61 with fail
    go_cut [] (fun wx => Kp w4 wx)
    case first =>
      rcases btw_cases many 0 200 with ⟨hb, hi⟩ | ⟨hb, hi⟩
      · have he := HDA.out.1 hi
        injection he with e1 e2
        have hmm : many = ((many.toNat : Nat) : Int) := by omega
        have hdo := fun W => deepestOf_any many.toNat (by omega) W
        rw [← hmm, ← e1] at hdo
        have HDO := hide hdo
        have d1 : (dd != dd) = false := by simp
        have d2 : (de != 0) = false := by simp [e2]
        rw [hb]
        clear HDA hi hb e1 e2 hmm hdo
        go_wp2_with fail
        with_reducible refine (HDO.out _).mono ?_
        rintro e w6 ⟨rfl, rfl⟩
        go_wp2_with fail
        go_meet
        exact KB.out
      · have he := HDA.out.2 (by omega)
        injection he with e1 e2
        have d1 : (dd != 0) = false := by simp [e1]
        have d2 : (de != 1) = false := by simp [e2]
        rw [hb]
        clear HDA hi hb e1 e2
        go_wp2_with fail
        go_meet
        exact KB.out
    case rest =>
      have KC : Hid (Kp w4 wc) := hide hcut
      clear hcut HDA
      by_cases hlen : ops.length > 300
      · have he := HGR.out.1 hlen
        simp only [Prod.mk.injEq] at he
        obtain ⟨e1, e2, e3, e4⟩ := he
        subst e1 e2 e3 e4
        have b9 : (300 : Int) < (ops.length : Int) := by omega
        clear hlen HGR
        go_wp2
        go_ret
        exact ⟨rfl, (HK4.out.trans KC.out).bel⟩
      · have he := HGR.out.2 hlen
        simp only [Prod.mk.injEq] at he
        obtain ⟨e1, e2, e3, e4⟩ := he
        subst e1 e2 e3 e4
        have b9 : (ops.length : Int) ≤ 300 := by omega
        have HAW := hide (fun W v h => answered_any ops v W h (by omega))
        have HGD := hide (fun W v u h h2 => goated_any ops (by omega) v u W h h2)
        have hsz := (gt_bounds ops ops.length (Nat.le_refl _)).2.2.1
        have hal := runL_len ops ops.length (Nat.le_refl _)
        rw [List.take_length] at hal
        have hzl : (opsZ ops).length = ops.length := by rw [opsZ, List.length_zip, hal]; omega
        rw [List.take_of_length_le (show (opsZ ops).length ≤ ops.length by omega)] at hsz
        obtain ⟨S, hS⟩ : ∃ S, S = gtT (opsZ ops) := ⟨_, rfl⟩
        rw [← hS] at HGD HR34 hsz ⊢
        obtain ⟨⟨pm, an⟩, hP⟩ : ∃ P, P = runL ops := ⟨_, rfl⟩
        rw [← hP] at HAW HGD HU34 ⊢
        simp only at HAW HGD HU34 ⊢
        have HSZ : Hid ((0 : Int) + (skel S.T).size ≤ 1073741824) := hide (by rw [skel_size]; omega)
        have d5 : ((S.built : Int) == (S.built : Int)) = true := by simp
        clear hlen HGR hsz hal hzl hS hP
        go_wp2_with fail
        with_reducible refine (HAW.out _ _ (HO4.out.kp KC.out)).mono ?_
        rintro e wa ⟨va, ua, rfl, hra, hua, hba⟩
        have kka := Kp.of hba
        obtain ⟨Aa, ca, rfl, _, _⟩ := hra.shape
        obtain ⟨Ab, cb, rfl, _, _⟩ := hua.shape
        have HUA := hide hua
        clear hra hua hba
        go_wp2_with fail
        with_reducible refine (HGD.out _ _ _ (HO4.out.kp (KC.out.trans kka)) HUA.out).mono ?_
        rintro e wb ⟨pb, rfl, htb, hbb⟩
        have kkb := Kp.of hbb
        have HTB := hide htb
        clear htb hbb
        go_wp2_with fail
        with_reducible refine (spots_any (skel S.T) pb 0 _ HTB.out (by omega) HSZ.out).mono ?_
        rintro e wx ⟨vx, rfl, hox, hbx⟩
        have kkx := Kp.of hbx
        have HRX := hide hox.rd
        clear hox hbx
        go_wp2_with fail
        refine (sameSpots_to (S.T.spotsBy Prod.fst 0) ((skel S.T).spots 0) true _ _ _ (HR34.out.kp (KC.out.trans (kka.trans (kkb.trans kkx)))) HRX.out (by rw [skel_spots]; simp)).mono ?_
        rintro e wd ⟨rfl, hbd⟩
        have kkd := Kp.of hbd
        clear hbd
        go_wp2_with fail
        refine (eqAns_same an _ _ _ (HU34.out.kp (KC.out.trans (kka.trans (kkb.trans (kkx.trans kkd))))) (HUA.out.kp (kkb.trans (kkx.trans kkd)))).mono ?_
        rintro e we ⟨rfl, hbe⟩
        have kke := Kp.of hbe
        clear hbe
        go_wp2
        go_ret
        exact ⟨rfl, (HK4.out.trans (KC.out.trans (kka.trans (kkb.trans (kkx.trans (kkd.trans kke)))))).bel⟩
end Go.Proofs.YtpkkajglbklboaaDoor
namespace Go.Proofs.YtpkkajglbklboaaDoor
open Go.ChangeShapes Go.WideShapes Go.ChangeAt Go.RowKit Go.Deep
set_option linter.unusedVariables false
set_option linter.unusedSimpArgs false

set_option maxRecDepth 100000 in
theorem goatSays_lifted (os : Os) (started : os.Started) (H : Type) (enc : TypeId × Value → H) :
    ReturnsInHanded {} Tryd.checked os 4 .any (fun w args => (Rows.goatSaysSpec.pre enc Tryd.prog Tryd.f4 Rows.goatSaysRow.domain false w args ∧ laidMetH Tryd.prog ZLaid w) ∧ sizedMet enc Tryd.prog Tryd.f4 (OpenSpec.ofChange Rows.goatSaysSpec) false w args) (Rows.goatSaysSpec.post enc Tryd.prog Tryd.f4 false true false false) := by
  refine returnsInHanded_of_change_and (C := Tryd.checked) (X := fun w _ => laidMetH Tryd.prog ZLaid w) (fun _ _ _ hh h => h.of_heap hh) own started (by kernel_rfl) Tryd.func4
    (ChangeSpec.witness_at (enc := enc) (C := Tryd.checked) (os := os) (X := fun w _ => laidMetH Tryd.prog ZLaid w) false (laidWorldZ os) #[.slice none 0 0, .int .i64 0, .slice none 0 0] 8 rfl (by kernel_rfl) (by kernel_rfl) (by kernel_rfl) (by kernel_rfl) (by kernel_rfl) (laidZ_met os _)) ?_
  intro W base args ds gs before hval0 hW hcnd _ hL _
  have hval : ∀ (j : Nat) t v, Tryd.f4.params[j]? = some t → args[j]? = some v → Value.okWide Tryd.prog W .any base t v := hval0
  have hW' := hW
  obtain ⟨p, q, hA0, hV, rfl, hfz, hnd⟩ := hW
  have hA : DataW.TrodAll enc Tryd.prog W 0 (fun _ => true) true Tryd.f4.params.toList args.toList ds p := hA0
  rw [Tryd.params4] at hA hval
  obtain ⟨v0, vs0, d0, ds0, p0, q0, hargs, rfl, rfl, h0, r0⟩ := trodAll_cons hA
  obtain ⟨v1, vs1, d1, ds1, p1, q1, rfl, rfl, rfl, h1, r1⟩ := trodAll_cons r0
  obtain ⟨v2, vs2, d2, ds2, p2, q2, rfl, rfl, rfl, h2, r2⟩ := trodAll_cons r1
  obtain ⟨rfl, rfl, rfl⟩ := trodAll_nil r2
  obtain rfl : args = #[v0, v1, v2] := by cases args; simp_all
  obtain ⟨rfl, rfl⟩ := trodVars_none hV
  obtain ⟨a0, n0, c0, rfl⟩ := okWide_slice Tryd.underlying36 (hval 0 36 v0 rfl rfl)
  obtain ⟨n1, rfl⟩ := okWide_int Tryd.underlying3 (hval 1 3 v1 rfl rfl)
  obtain ⟨a2, n2, c2, rfl⟩ := okWide_slice Tryd.underlying22 (hval 2 22 v2 rfl rfl)
  have lt0 : ∀ x ∈ p0, x.block < W.heap.size := by obtain ⟨m, hm⟩ := h0; exact DataW.trod_lt m _ _ _ hm
  have lt1 : ∀ x ∈ p1, x.block < W.heap.size := by obtain ⟨m, hm⟩ := h1; exact DataW.trod_lt m _ _ _ hm
  have lt2 : ∀ x ∈ p2, x.block < W.heap.size := by obtain ⟨m, hm⟩ := h2; exact DataW.trod_lt m _ _ _ hm
  obtain ⟨l0, w0⟩ := arg_ints h0
  have w1 : -9223372036854775808 ≤ n1 ∧ n1 ≤ 9223372036854775807 := by obtain ⟨m, hm⟩ := h1; exact wf_i64 Tryd.underlying3 hm
  obtain ⟨l2, w2⟩ := arg_ops h2
  clear hA0 hval0
  refine (goatSays_walk l0 n1 l2 _ _ W w0 w1 w2 (db_of_laid hL)).mono fun e W' ⟨he, bel⟩ => ?_
  subst he
  exact ⟨_, rfl, _, _, _, [], _, [], hW', trodAll_mk1 (shut_bool Tryd.underlying4 _), (trodAll_cons_mk (Below.trod laidOut (by kernel_rfl) (of_decide_eq_true (by kernel_rfl)) h0 bel lt0) (trodAll_cons_mk (Below.trod laidOut (by kernel_rfl) (of_decide_eq_true (by kernel_rfl)) h1 bel lt1) (trodAll_cons_mk (Below.trod laidOut (by kernel_rfl) (of_decide_eq_true (by kernel_rfl)) h2 bel lt2) trodAll_mk0))), rfl, bel.frame _, fun h => by cases h⟩

set_option maxRecDepth 100000 in
set_option maxHeartbeats 8000000 in
theorem goatSays_closed : joinedFacts Tryd.checked.prog 4 Tryd.f4 Rows.goatSaysSpec Rows.goatSaysRow = true := by
  unfold joinedFacts
  repeat' (with_reducible refine and_true_of ?_ ?_)
  all_goals (as_aux_lemma => kernel_rfl)
theorem goatSays_over : Rows.goatSaysRow.holds Tryd.pinned (OpenSpec.ofChange Rows.goatSaysSpec) :=
  OpenClaim.holds_of_wide 4 Tryd.f4 rfl rfl rfl rfl rfl rfl rfl ⟨rfl, rfl, rfl, rfl, rfl⟩ rfl rfl rfl rfl rfl (by as_aux_lemma => kernel_rfl) Tryd.func4 goatSays_closed
    (of_decide_eq_true (by as_aux_lemma => kernel_rfl)) (by as_aux_lemma => unfold Func.isWrapper; first | (rw [if_pos (by decide +kernel)]; kernel_rfl) | (rw [if_neg (by decide +kernel)]; exact ⟨rfl, rfl⟩))
    (fun os started H enc _ => goatSays_lifted os started H enc)
set_option maxRecDepth 100000 in
theorem goatSays_proved : Rows.GoatSaysCardSaid :=
  Claim7.holds_tied_plain_at .later [] [.data] true _ false goatSays_over (fun _ h => by cases h) (by kernel_rfl) (fun _ h => by cases h) goatSays_row_tie rfl ⟨rfl, rfl⟩ (by kernel_rfl) rfl
    (fun f fn hf hfn => by
      obtain rfl : f = 4 := Option.some.inj ((show Tryd.prog.funcNamed "hedgewright/hedglaw.GoatSays" = some 4 by kernel_rfl).symm.trans hf) |>.symm
      obtain rfl : fn = Tryd.f4 := (Option.some.inj (Tryd.func4.symm.trans hfn)).symm
      exact ⟨by kernel_rfl, fun j t ht => by
        have h : (Tryd.f4.params.toList.all fun t => !Tryd.prog.wantsStandIn t) = true := by kernel_rfl
        have hm : t ∈ Tryd.f4.params.toList := by
          rw [Array.mem_toList_iff]
          exact Array.mem_of_getElem? ht
        have h2 : Tryd.prog.wantsStandIn t = false := by simpa using List.all_eq_true.1 h t hm
        exact h2⟩)
    (by kernel_rfl)
#print axioms goatSays_proved
end Go.Proofs.YtpkkajglbklboaaDoor
