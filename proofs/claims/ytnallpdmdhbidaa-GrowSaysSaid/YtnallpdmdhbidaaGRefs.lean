/-
  hedgref.Leaf, Least, Unleafed, Grown, HeldOften, UnlikeKeys, SortedKeys: what they answer. Conditions: trees that are read (TR), lists that read (RD) as said; of SortedKeys: no key twice, each from 0 to a million.
-/
import Derived.Test.YtnallpdmdhbidaaTree
import Derived.Test.YtnallpdmdhbidaaAnswered
import Derived.Test.YtnallpdmdhbidaaGRight
import Derived.Test.YtnallpdmdhbidaaGSort
namespace Go.Proofs.Ytnallpdmdhbidaa
open Go.ChangeShapes Go.WideShapes Go.ChangeAt Go.RowKit
set_option linter.unusedVariables false
set_option linter.unusedSimpArgs false

def leafT : T → Int → T
  | .nil, k => .node k .nil .nil
  | .node a l r, k => if k < a then .node a (leafT l k) r else if a < k then .node a l (leafT r k) else .node a l r
def leastT : T → Int
  | .nil => 0
  | .node a .nil _ => a
  | .node _ (.node b x y) _ => leastT (.node b x y)
def T.isN : T → Bool
  | .nil => true
  | .node _ _ _ => false
def unlT : T → Int → T
  | .nil, _ => .nil
  | .node a l r, k => if k < a then .node a (unlT l k) r else if a < k then .node a l (unlT r k) else if l.isN then r else if r.isN then l else .node (leastT r) l (unlT r (leastT r))
def grS (t : T) (o : O3) (a : An) : T := if a.err ≠ 0 then t else if o.1 = 1 then leafT t o.2.1 else if o.1 = 3 then unlT t o.2.1 else t
def grT (z : List (O3 × An)) : T := z.foldl (fun t p => grS t p.1 p.2) .nil
theorem grT_snoc (z : List (O3 × An)) (k : Nat) (h : k < z.length) : grT (z.take (k + 1)) = grS (grT (z.take k)) z[k].1 z[k].2 := by
  rw [List.take_succ_eq_append_getElem h, grT, List.foldl_append]; rfl
theorem TR.uniq {w : World} : ∀ {t t' : T} {p : Option Addr}, TR w t p → TR w t' p → t = t'
  | .nil, .nil, _, _, _ => rfl
  | .nil, .node _ _ _, p, h, h' => by obtain ⟨b, pl, pr, e, _⟩ := h'; have h : p = none := h; rw [h] at e; cases e
  | .node _ _ _, .nil, p, h, h' => by obtain ⟨b, pl, pr, e, _⟩ := h; have h' : p = none := h'; rw [h'] at e; cases e
  | .node a l r, .node a' l' r', p, h, h' => by
    obtain ⟨b, pl, pr, rfl, _, c0, c1, c2, hl, hr⟩ := h
    obtain ⟨b', pl', pr', e, _, c0', c1', c2', hl', hr'⟩ := h'
    injection e with e
    injection e with e
    subst e
    rw [c0] at c0'; rw [c1] at c1'; rw [c2] at c2'
    injection c0' with c0'; injection c0' with _ c0'
    injection c1' with c1'; injection c1' with c1'
    injection c2' with c2'; injection c2' with c2'
    subst c0' c1' c2'
    rw [TR.uniq hl hl', TR.uniq hr hr']
noncomputable def szT (v : Value) (w : World) : Nat := by
  classical
  exact if h : ∃ (t : T) (p : Option Addr), v = .pointer p ∧ TR w t p then h.choose.size else 0
theorem szT_eq {w : World} {t : T} {p : Option Addr} (hm : TR w t p) : szT (.pointer p) w = t.size := by
  unfold szT
  have h : ∃ (t : T) (p' : Option Addr), Value.pointer p = .pointer p' ∧ TR w t p' := ⟨t, p, rfl, hm⟩
  rw [dif_pos h]
  obtain ⟨p', h1, h2⟩ := h.choose_spec
  generalize h.choose = t' at h2
  injection h1 with h1
  subst h1
  rw [TR.uniq h2 hm]
theorem TR.isN {w : World} {t : T} {p : Option Addr} (h : TR w t p) : (p == none) = t.isN := by
  cases t with
  | nil => have h : p = none := h; subst h; rfl
  | node a l r => obtain ⟨b, pl, pr, rfl, _⟩ := h; rfl

set_option maxRecDepth 100000 in
set_option maxHeartbeats 4000000 in
theorem leaf_any : ∀ (t : T) (p : Option Addr) (k : Int) (w : World), TR w t p → Calls Try.prog 16 #[.pointer p, .int .i64 k] w (RetTR (leafT t k) w)
  | .nil, p, k, w, h => by
    obtain rfl : p = none := h
    go_enter Try.func16, Try.ntmps16
    go_wp2
    go_ret
    exact ⟨_, rfl, TR.mk (l := .nil) (r := .nil) rfl rfl _, ((Kp.refl w).alloc).bel⟩
  | .node a l r, p, k, w, h => by
    obtain ⟨b, pl, pr, rfl, hb, c0, c1, c2, hl, hr⟩ := h
    have HL := hide hl
    have HR := hide hr
    have KS : Hid (∀ W', Kp w W' → (W'.cell? ⟨b, 0, none⟩ = some (.int .i64 a) ∧ W'.cell? ⟨b, 1, none⟩ = some (.pointer pl) ∧ W'.cell? ⟨b, 2, none⟩ = some (.pointer pr) ∧ Kp w W')) :=
      hide fun W' h => ⟨h.cell c0, h.cell c1, h.cell c2, h⟩
    have K0 := Kp.refl w
    by_cases h1 : k < a
    · have IH := hide (fun w h => leaf_any l pl k w h)
      have HF : Hid (leafT (.node a l r) k = .node a (leafT l k) r) := hide (by rw [leafT, if_pos h1])
      have d1 : decide (k < a) = true := by simp [h1]
      clear hl hr h1
      go_enter Try.func16, Try.ntmps16
      go_wp2_with fail
      go_region_held3 (fun w' => w'.cell? ⟨b, 0, none⟩ = some (.int .i64 a) ∧ w'.cell? ⟨b, 1, none⟩ = some (.pointer pl) ∧ w'.cell? ⟨b, 2, none⟩ = some (.pointer pr) ∧ Kp w w')
        ((go_split_ands; refine KS.out _ ?_; (focus ((repeat (first | (with_reducible assumption) | (with_reducible exact Kp.refl _) | (with_reducible apply Kp.drew) | (with_reducible apply Kp.drewN) | ((with_reducible apply Kp.setR); (focus (first | (with_reducible assumption) | (simp; done) | (simp; omega)))) | (with_reducible apply Kp.alloc) | ((with_reducible apply Kp.call); (with_reducible assumption)) | ((with_reducible apply Kp.app); (with_reducible assumption)))); done))))
        ((go_at_call_of 16 (Value.pointer pl); (with_reducible refine (IH.out _ (HL.out.kp ?_)).mono ?_); (go_split_ands; (focus ((repeat (first | (with_reducible assumption) | (with_reducible exact Kp.refl _) | (with_reducible apply Kp.drew) | (with_reducible apply Kp.drewN) | ((with_reducible apply Kp.setR); (focus (first | (with_reducible assumption) | (simp; done) | (simp; omega)))) | (with_reducible apply Kp.alloc) | ((with_reducible apply Kp.call); (with_reducible assumption)) | ((with_reducible apply Kp.app); (with_reducible assumption)))); done))); rintro e w1 ⟨p1, rfl, ht1, hb1⟩))
      all_goals
        go_wp2
        go_ret
        refine ⟨_, rfl, by rw [HF.out]; exact TR.mk (ht1.kp (by (focus ((repeat (first | (with_reducible assumption) | (with_reducible exact Kp.refl _) | (with_reducible apply Kp.drew) | (with_reducible apply Kp.drewN) | ((with_reducible apply Kp.setR); (focus (first | (with_reducible assumption) | (simp; done) | (simp; omega)))) | (with_reducible apply Kp.alloc) | ((with_reducible apply Kp.call); (with_reducible assumption)) | ((with_reducible apply Kp.app); (with_reducible assumption)))); done)))) (HR.out.kp (by (focus ((repeat (first | (with_reducible assumption) | (with_reducible exact Kp.refl _) | (with_reducible apply Kp.drew) | (with_reducible apply Kp.drewN) | ((with_reducible apply Kp.setR); (focus (first | (with_reducible assumption) | (simp; done) | (simp; omega)))) | (with_reducible apply Kp.alloc) | ((with_reducible apply Kp.call); (with_reducible assumption)) | ((with_reducible apply Kp.app); (with_reducible assumption)))); done)))) _, Kp.bel (by (focus ((repeat (first | (with_reducible assumption) | (with_reducible exact Kp.refl _) | (with_reducible apply Kp.drew) | (with_reducible apply Kp.drewN) | ((with_reducible apply Kp.setR); (focus (first | (with_reducible assumption) | (simp; done) | (simp; omega)))) | (with_reducible apply Kp.alloc) | ((with_reducible apply Kp.call); (with_reducible assumption)) | ((with_reducible apply Kp.app); (with_reducible assumption)))); done)))⟩
    · by_cases h2 : a < k
      · have IH := hide (fun w h => leaf_any r pr k w h)
        have HF : Hid (leafT (.node a l r) k = .node a l (leafT r k)) := hide (by rw [leafT, if_neg h1, if_pos h2])
        have d1 : decide (k < a) = false := by simp; omega
        have d2 : decide (a < k) = true := by simp [h2]
        clear hl hr h1 h2
        go_enter Try.func16, Try.ntmps16
        go_wp2_with fail
        go_region_held3 (fun w' => w'.cell? ⟨b, 0, none⟩ = some (.int .i64 a) ∧ w'.cell? ⟨b, 1, none⟩ = some (.pointer pl) ∧ w'.cell? ⟨b, 2, none⟩ = some (.pointer pr) ∧ Kp w w')
          ((go_split_ands; refine KS.out _ ?_; (focus ((repeat (first | (with_reducible assumption) | (with_reducible exact Kp.refl _) | (with_reducible apply Kp.drew) | (with_reducible apply Kp.drewN) | ((with_reducible apply Kp.setR); (focus (first | (with_reducible assumption) | (simp; done) | (simp; omega)))) | (with_reducible apply Kp.alloc) | ((with_reducible apply Kp.call); (with_reducible assumption)) | ((with_reducible apply Kp.app); (with_reducible assumption)))); done))))
          ((go_at_call_of 16 (Value.pointer pr); (with_reducible refine (IH.out _ (HR.out.kp ?_)).mono ?_); (go_split_ands; (focus ((repeat (first | (with_reducible assumption) | (with_reducible exact Kp.refl _) | (with_reducible apply Kp.drew) | (with_reducible apply Kp.drewN) | ((with_reducible apply Kp.setR); (focus (first | (with_reducible assumption) | (simp; done) | (simp; omega)))) | (with_reducible apply Kp.alloc) | ((with_reducible apply Kp.call); (with_reducible assumption)) | ((with_reducible apply Kp.app); (with_reducible assumption)))); done))); rintro e w1 ⟨p1, rfl, ht1, hb1⟩))
        all_goals
          go_wp2
          go_ret
          refine ⟨_, rfl, by rw [HF.out]; exact TR.mk (HL.out.kp (by (focus ((repeat (first | (with_reducible assumption) | (with_reducible exact Kp.refl _) | (with_reducible apply Kp.drew) | (with_reducible apply Kp.drewN) | ((with_reducible apply Kp.setR); (focus (first | (with_reducible assumption) | (simp; done) | (simp; omega)))) | (with_reducible apply Kp.alloc) | ((with_reducible apply Kp.call); (with_reducible assumption)) | ((with_reducible apply Kp.app); (with_reducible assumption)))); done)))) (ht1.kp (by (focus ((repeat (first | (with_reducible assumption) | (with_reducible exact Kp.refl _) | (with_reducible apply Kp.drew) | (with_reducible apply Kp.drewN) | ((with_reducible apply Kp.setR); (focus (first | (with_reducible assumption) | (simp; done) | (simp; omega)))) | (with_reducible apply Kp.alloc) | ((with_reducible apply Kp.call); (with_reducible assumption)) | ((with_reducible apply Kp.app); (with_reducible assumption)))); done)))) _, Kp.bel (by (focus ((repeat (first | (with_reducible assumption) | (with_reducible exact Kp.refl _) | (with_reducible apply Kp.drew) | (with_reducible apply Kp.drewN) | ((with_reducible apply Kp.setR); (focus (first | (with_reducible assumption) | (simp; done) | (simp; omega)))) | (with_reducible apply Kp.alloc) | ((with_reducible apply Kp.call); (with_reducible assumption)) | ((with_reducible apply Kp.app); (with_reducible assumption)))); done)))⟩
      · have HF : Hid (leafT (.node a l r) k = .node a l r) := hide (by rw [leafT, if_neg h1, if_neg h2])
        have d1 : decide (k < a) = false := by simp; omega
        have d2 : decide (a < k) = false := by simp; omega
        have HT : Hid (TR w (.node a l r) (some ⟨b, 0, none⟩)) := hide ⟨b, pl, pr, rfl, hb, c0, c1, c2, hl, hr⟩
        clear hl hr h1 h2
        go_enter Try.func16, Try.ntmps16
        go_wp2
        go_ret
        exact ⟨_, rfl, by rw [HF.out]; exact HT.out, Below.refl _ _⟩

def LeRel (m : Int) (w : World) (v : Value) (wr : World) : Prop := ∃ t p, v = .pointer p ∧ TR wr t p ∧ t.isN = false ∧ leastT t = m ∧ w = wr
set_option maxRecDepth 100000 in
set_option maxHeartbeats 1000000 in
theorem least_ref_any (t : T) (p : Option Addr) (w : World) (h : TR w t p) (hn : t.isN = false) : Calls Try.prog 53 #[.pointer p] w (Ret (.int .i64 (leastT t)) w) := by
  have H := hide h
  have HN := hide hn
  clear h hn
  go_enter Try.func53, Try.ntmps53
  go_wp2
  go_loopw [0] (LeRel (leastT t) w) (fun v wr => szT v wr)
  case atStart => exact ⟨t, p, rfl, H.out, HN.out, rfl, rfl⟩
  case round =>
    obtain ⟨t1, p1, rfl, ht, hn, hl, rfl⟩ := hrel
    have HM := hide (szT_eq ht)
    cases t1 with
    | nil => cases hn
    | node a l r =>
      obtain ⟨b, pl, pr, rfl, hb, c0, c1, c2, hl1, hr1⟩ := ht
      cases l with
      | nil =>
        obtain rfl : pl = none := hl1
        have hl2 : a = leastT t := hl
        go_wp2
        go_ret
        exact ⟨rfl, Below.refl _ _⟩
      | node c x y =>
        obtain ⟨b2, px, py, rfl, hb2, d0, d1, d2, hx, hy⟩ := hl1
        have HT2 : Hid (TR w (.node c x y) (some ⟨b2, 0, none⟩)) := hide ⟨b2, px, py, rfl, hb2, d0, d1, d2, hx, hy⟩
        have HL2 : Hid (leastT (.node c x y) = leastT t) := hide (by rw [← hl, leastT])
        clear hl hx hy hr1
        go_wp2
        go_roundw
        case rel => exact ⟨_, _, rfl, HT2.out, rfl, HL2.out, rfl⟩
        case measure => rw [HM.out, szT_eq HT2.out]; simp only [T.size]; omega

set_option maxRecDepth 100000 in
set_option maxHeartbeats 8000000 in
theorem unl_any : ∀ (t : T) (p : Option Addr) (k : Int) (w : World), TR w t p → Calls Try.prog 38 #[.pointer p, .int .i64 k] w (RetTR (unlT t k) w)
  | .nil, p, k, w, h => by
    obtain rfl : p = none := h
    go_enter Try.func38, Try.ntmps38
    go_wp2
    go_ret
    exact ⟨none, rfl, rfl, Below.refl _ _⟩
  | .node a l r, p, k, w, h => by
    obtain ⟨b, pl, pr, rfl, hb, c0, c1, c2, hl, hr⟩ := h
    have HL := hide hl
    have HR := hide hr
    have KS : Hid (∀ W', Kp w W' → (W'.cell? ⟨b, 0, none⟩ = some (.int .i64 a) ∧ W'.cell? ⟨b, 1, none⟩ = some (.pointer pl) ∧ W'.cell? ⟨b, 2, none⟩ = some (.pointer pr) ∧ Kp w W')) :=
      hide fun W' h => ⟨h.cell c0, h.cell c1, h.cell c2, h⟩
    have K0 := Kp.refl w
    by_cases h1 : k < a
    · have IH := hide (fun w h => unl_any l pl k w h)
      have HF : Hid (unlT (.node a l r) k = .node a (unlT l k) r) := hide (by rw [unlT, if_pos h1])
      have d1 : decide (k < a) = true := by simp [h1]
      clear hl hr h1
      go_enter Try.func38, Try.ntmps38
      go_wp2_with fail
      go_region_held3 (fun w' => w'.cell? ⟨b, 0, none⟩ = some (.int .i64 a) ∧ w'.cell? ⟨b, 1, none⟩ = some (.pointer pl) ∧ w'.cell? ⟨b, 2, none⟩ = some (.pointer pr) ∧ Kp w w')
        ((go_split_ands; refine KS.out _ ?_; (focus ((repeat (first | (with_reducible assumption) | (with_reducible exact Kp.refl _) | (with_reducible apply Kp.drew) | (with_reducible apply Kp.drewN) | ((with_reducible apply Kp.setR); (focus (first | (with_reducible assumption) | (simp; done) | (simp; omega)))) | (with_reducible apply Kp.alloc) | ((with_reducible apply Kp.call); (with_reducible assumption)) | ((with_reducible apply Kp.app); (with_reducible assumption)))); done))))
        ((go_at_call_of 38 (Value.pointer pl); (with_reducible refine (IH.out _ (HL.out.kp ?_)).mono ?_); (go_split_ands; (focus ((repeat (first | (with_reducible assumption) | (with_reducible exact Kp.refl _) | (with_reducible apply Kp.drew) | (with_reducible apply Kp.drewN) | ((with_reducible apply Kp.setR); (focus (first | (with_reducible assumption) | (simp; done) | (simp; omega)))) | (with_reducible apply Kp.alloc) | ((with_reducible apply Kp.call); (with_reducible assumption)) | ((with_reducible apply Kp.app); (with_reducible assumption)))); done))); rintro e w1 ⟨p1, rfl, ht1, hb1⟩))
      all_goals
        go_wp2
        go_ret
        refine ⟨_, rfl, by rw [HF.out]; exact TR.mk (ht1.kp (by (focus ((repeat (first | (with_reducible assumption) | (with_reducible exact Kp.refl _) | (with_reducible apply Kp.drew) | (with_reducible apply Kp.drewN) | ((with_reducible apply Kp.setR); (focus (first | (with_reducible assumption) | (simp; done) | (simp; omega)))) | (with_reducible apply Kp.alloc) | ((with_reducible apply Kp.call); (with_reducible assumption)) | ((with_reducible apply Kp.app); (with_reducible assumption)))); done)))) (HR.out.kp (by (focus ((repeat (first | (with_reducible assumption) | (with_reducible exact Kp.refl _) | (with_reducible apply Kp.drew) | (with_reducible apply Kp.drewN) | ((with_reducible apply Kp.setR); (focus (first | (with_reducible assumption) | (simp; done) | (simp; omega)))) | (with_reducible apply Kp.alloc) | ((with_reducible apply Kp.call); (with_reducible assumption)) | ((with_reducible apply Kp.app); (with_reducible assumption)))); done)))) _, Kp.bel (by (focus ((repeat (first | (with_reducible assumption) | (with_reducible exact Kp.refl _) | (with_reducible apply Kp.drew) | (with_reducible apply Kp.drewN) | ((with_reducible apply Kp.setR); (focus (first | (with_reducible assumption) | (simp; done) | (simp; omega)))) | (with_reducible apply Kp.alloc) | ((with_reducible apply Kp.call); (with_reducible assumption)) | ((with_reducible apply Kp.app); (with_reducible assumption)))); done)))⟩
    · by_cases h2 : a < k
      · have IH := hide (fun w h => unl_any r pr k w h)
        have HF : Hid (unlT (.node a l r) k = .node a l (unlT r k)) := hide (by rw [unlT, if_neg h1, if_pos h2])
        have d1 : decide (k < a) = false := by simp; omega
        have d2 : decide (a < k) = true := by simp [h2]
        clear hl hr h1 h2
        go_enter Try.func38, Try.ntmps38
        go_wp2_with fail
        go_region_held3 (fun w' => w'.cell? ⟨b, 0, none⟩ = some (.int .i64 a) ∧ w'.cell? ⟨b, 1, none⟩ = some (.pointer pl) ∧ w'.cell? ⟨b, 2, none⟩ = some (.pointer pr) ∧ Kp w w')
          ((go_split_ands; refine KS.out _ ?_; (focus ((repeat (first | (with_reducible assumption) | (with_reducible exact Kp.refl _) | (with_reducible apply Kp.drew) | (with_reducible apply Kp.drewN) | ((with_reducible apply Kp.setR); (focus (first | (with_reducible assumption) | (simp; done) | (simp; omega)))) | (with_reducible apply Kp.alloc) | ((with_reducible apply Kp.call); (with_reducible assumption)) | ((with_reducible apply Kp.app); (with_reducible assumption)))); done))))
          ((go_at_call_of 38 (Value.pointer pr); (with_reducible refine (IH.out _ (HR.out.kp ?_)).mono ?_); (go_split_ands; (focus ((repeat (first | (with_reducible assumption) | (with_reducible exact Kp.refl _) | (with_reducible apply Kp.drew) | (with_reducible apply Kp.drewN) | ((with_reducible apply Kp.setR); (focus (first | (with_reducible assumption) | (simp; done) | (simp; omega)))) | (with_reducible apply Kp.alloc) | ((with_reducible apply Kp.call); (with_reducible assumption)) | ((with_reducible apply Kp.app); (with_reducible assumption)))); done))); rintro e w1 ⟨p1, rfl, ht1, hb1⟩))
        all_goals
          go_wp2
          go_ret
          refine ⟨_, rfl, by rw [HF.out]; exact TR.mk (HL.out.kp (by (focus ((repeat (first | (with_reducible assumption) | (with_reducible exact Kp.refl _) | (with_reducible apply Kp.drew) | (with_reducible apply Kp.drewN) | ((with_reducible apply Kp.setR); (focus (first | (with_reducible assumption) | (simp; done) | (simp; omega)))) | (with_reducible apply Kp.alloc) | ((with_reducible apply Kp.call); (with_reducible assumption)) | ((with_reducible apply Kp.app); (with_reducible assumption)))); done)))) (ht1.kp (by (focus ((repeat (first | (with_reducible assumption) | (with_reducible exact Kp.refl _) | (with_reducible apply Kp.drew) | (with_reducible apply Kp.drewN) | ((with_reducible apply Kp.setR); (focus (first | (with_reducible assumption) | (simp; done) | (simp; omega)))) | (with_reducible apply Kp.alloc) | ((with_reducible apply Kp.call); (with_reducible assumption)) | ((with_reducible apply Kp.app); (with_reducible assumption)))); done)))) _, Kp.bel (by (focus ((repeat (first | (with_reducible assumption) | (with_reducible exact Kp.refl _) | (with_reducible apply Kp.drew) | (with_reducible apply Kp.drewN) | ((with_reducible apply Kp.setR); (focus (first | (with_reducible assumption) | (simp; done) | (simp; omega)))) | (with_reducible apply Kp.alloc) | ((with_reducible apply Kp.call); (with_reducible assumption)) | ((with_reducible apply Kp.app); (with_reducible assumption)))); done)))⟩
      · have d1 : decide (k < a) = false := by simp; omega
        have d2 : decide (a < k) = false := by simp; omega
        have hf : unlT (.node a l r) k = if l.isN then r else if r.isN then l else .node (leastT r) l (unlT r (leastT r)) := by rw [unlT, if_neg h1, if_neg h2]
        cases l with
        | nil =>
          obtain rfl : pl = none := hl
          have HF : Hid (unlT (.node a .nil r) k = r) := hide hf
          clear hr h1 h2 hf
          go_enter Try.func38, Try.ntmps38
          go_wp2
          go_ret
          exact ⟨_, rfl, by rw [HF.out]; exact HR.out, Below.refl _ _⟩
        | node c x y =>
          obtain ⟨b2, px, py, rfl, _⟩ := id hl
          cases r with
          | nil =>
            obtain rfl : pr = none := hr
            have HF : Hid (unlT (.node a (.node c x y) .nil) k = .node c x y) := hide hf
            try clear hl
            try clear hr
            clear h1 h2 hf
            go_enter Try.func38, Try.ntmps38
            go_wp2
            go_ret
            exact ⟨_, rfl, by rw [HF.out]; exact HL.out, Below.refl _ _⟩
          | node d u z =>
            obtain ⟨b3, pu, pz, rfl, _⟩ := id hr
            have HLE := hide (fun w h => least_ref_any (.node d u z) (some ⟨b3, 0, none⟩) w h rfl)
            obtain ⟨m, hm⟩ : ∃ m, m = leastT (.node d u z) := ⟨_, rfl⟩
            rw [← hm] at HLE
            have IH := hide (fun w h => unl_any (.node d u z) (some ⟨b3, 0, none⟩) m w h)
            have HF : Hid (unlT (.node a (.node c x y) (.node d u z)) k = .node m (.node c x y) (unlT (.node d u z) m)) := hide (by rw [hf, hm]; rfl)
            obtain ⟨R, hRR⟩ : ∃ R, R = unlT (.node d u z) m := ⟨_, rfl⟩
            rw [← hRR] at IH HF
            try clear hl
            try clear hr
            clear h1 h2 hf hm hRR
            go_enter Try.func38, Try.ntmps38
            go_wp2_with fail
            with_reducible refine (HLE.out _ HR.out).mono ?_
            rintro e w0 ⟨rfl, hb0⟩
            have kk0 : Kp w w0 := Kp.of hb0
            clear hb0
            have c0' := kk0.cell c0
            have c1' := kk0.cell c1
            have c2' := kk0.cell c2
            clear c0 c1 c2 K0
            go_wp2_with fail
            go_region_held3 (fun w' => w'.cell? ⟨b, 0, none⟩ = some (.int .i64 a) ∧ w'.cell? ⟨b, 1, none⟩ = some (.pointer (some ⟨b2, 0, none⟩)) ∧ w'.cell? ⟨b, 2, none⟩ = some (.pointer (some ⟨b3, 0, none⟩)) ∧ Kp w w')
              ((go_split_ands; refine KS.out _ ?_; (focus ((repeat (first | (with_reducible assumption) | (with_reducible exact Kp.refl _) | (with_reducible apply Kp.drew) | (with_reducible apply Kp.drewN) | ((with_reducible apply Kp.setR); (focus (first | (with_reducible assumption) | (simp; done) | (simp; omega)))) | (with_reducible apply Kp.alloc) | ((with_reducible apply Kp.call); (with_reducible assumption)) | ((with_reducible apply Kp.app); (with_reducible assumption)))); done))))
              ((go_at_call_of 38 (Value.pointer (some ⟨b3, 0, none⟩)); (with_reducible refine (IH.out _ (HR.out.kp ?_)).mono ?_); (go_split_ands; (focus ((repeat (first | (with_reducible assumption) | (with_reducible exact Kp.refl _) | (with_reducible apply Kp.drew) | (with_reducible apply Kp.drewN) | ((with_reducible apply Kp.setR); (focus (first | (with_reducible assumption) | (simp; done) | (simp; omega)))) | (with_reducible apply Kp.alloc) | ((with_reducible apply Kp.call); (with_reducible assumption)) | ((with_reducible apply Kp.app); (with_reducible assumption)))); done))); rintro e w1 ⟨p1, rfl, ht1, hb1⟩))
            all_goals
              go_wp2
              go_ret
              refine ⟨_, rfl, by rw [HF.out]; exact TR.mk (HL.out.kp (by (focus ((repeat (first | (with_reducible assumption) | (with_reducible exact Kp.refl _) | (with_reducible apply Kp.drew) | (with_reducible apply Kp.drewN) | ((with_reducible apply Kp.setR); (focus (first | (with_reducible assumption) | (simp; done) | (simp; omega)))) | (with_reducible apply Kp.alloc) | ((with_reducible apply Kp.call); (with_reducible assumption)) | ((with_reducible apply Kp.app); (with_reducible assumption)))); done)))) (ht1.kp (by (focus ((repeat (first | (with_reducible assumption) | (with_reducible exact Kp.refl _) | (with_reducible apply Kp.drew) | (with_reducible apply Kp.drewN) | ((with_reducible apply Kp.setR); (focus (first | (with_reducible assumption) | (simp; done) | (simp; omega)))) | (with_reducible apply Kp.alloc) | ((with_reducible apply Kp.call); (with_reducible assumption)) | ((with_reducible apply Kp.app); (with_reducible assumption)))); done)))) _, Kp.bel (by (focus ((repeat (first | (with_reducible assumption) | (with_reducible exact Kp.refl _) | (with_reducible apply Kp.drew) | (with_reducible apply Kp.drewN) | ((with_reducible apply Kp.setR); (focus (first | (with_reducible assumption) | (simp; done) | (simp; omega)))) | (with_reducible apply Kp.alloc) | ((with_reducible apply Kp.call); (with_reducible assumption)) | ((with_reducible apply Kp.app); (with_reducible assumption)))); done)))⟩

set_option maxRecDepth 100000 in
set_option maxHeartbeats 8000000 in
theorem held_any (n : Nat) : ∀ (l : List Int) (v : Value) (w : World), l.length ≤ n → n ≤ 1000 → RD w eInt v l → Calls Try.prog 21 #[v] w (Ret (.int .i64 (sortF n l).2) w) := by
  induction n with
  | zero =>
    intro l v w h1 h2 hr
    obtain rfl : l = [] := List.eq_nil_of_length_eq_zero (by omega)
    obtain ⟨A, c, rfl, hc, hm⟩ := hr.shape
    clear hr
    go_enter Try.func21, Try.ntmps21
    go_wp2
    go_ret
    exact ⟨rfl, Below.refl _ _⟩
  | succ n ih =>
    intro l v w h1 h2 hr
    have IH := hide ih
    clear ih
    by_cases hl2 : l.length < 2
    · have HS := hide (sortF_one (n + 1) l hl2)
      obtain ⟨A, c, rfl, hc, hm⟩ := hr.shape
      clear hr
      go_enter Try.func21, Try.ntmps21
      go_wp2
      go_ret
      exact ⟨by rw [HS.out]; rfl, Below.refl _ _⟩
    · obtain ⟨x, t, hl⟩ : ∃ x t, l = x :: t := by
        cases l with
        | nil => simp at hl2
        | cons x t => exact ⟨x, t, rfl⟩
      have hlt : l.length = t.length + 1 := by rw [hl]; rfl
      obtain ⟨A, c, rfl, hc, hm⟩ := hr.shape
      obtain ⟨b, o, rfl, _, c0⟩ := hr.int (k := 0) (by omega)
      have hl0 : l[0]'(by omega) = x := by simp [hl]
      rw [hl0, Nat.add_zero] at c0
      have hif : (if c = 1 then some (⟨b, o, none⟩ : Addr) else some ⟨b, o + 1, none⟩) = some ⟨b, o + 1, none⟩ := if_neg (by omega)
      have hrt := hr.dropS (A' := some ⟨b, o + 1, none⟩) (k := 1) (by omega) rfl (by rw [show 1 * eInt.size = 1 from rfl]; exact hif)
      have hd1 : l.drop 1 = t := by rw [hl]; rfl
      have hd2 : l.length - 1 = t.length := by omega
      rw [hd1, hd2] at hrt
      have HRT := hide hrt
      have HF : Hid (sortF (n + 1) l = ((sortF n (lessL x t)).1 ++ [x] ++ (sortF n (moreL x t)).1, (sortF n (lessL x t)).2 + (sortF n (moreL x t)).2 + (l.length : Int) - 1)) := hide (by rw [hl]; exact sortF_more n x t (by omega))
      have hb1 : (1 : Int) ≤ (l.length : Int) := by omega
      have hb2 : ((l.length : Int) - 1).toNat = t.length := by omega
      have hcl1 := hd2
      have HLT := hide hlt
      have htc : t.length ≤ 1000 := by omega
      have hl2' : decide ((l.length : Int) < 2) = false := by simp; omega
      have HCL := hide (fun v W h => IH.out (lessL x t) v W (by have := lessL_len x t; omega) (by omega) h)
      have HCM := hide (fun v W h => IH.out (moreL x t) v W (by have := moreL_len x t; omega) (by omega) h)
      have hpl := parts_len x t
      have hcl := sortF_cnt n (lessL x t) (by omega)
      have hcm := sortF_cnt n (moreL x t) (by omega)
      obtain ⟨ca, hP1⟩ : ∃ P, P = (sortF n (lessL x t)).2 := ⟨_, rfl⟩
      obtain ⟨cb, hP2⟩ : ∃ P, P = (sortF n (moreL x t)).2 := ⟨_, rfl⟩
      have HF2 : Hid ((sortF (n + 1) l).2 = ca + cb + (l.length : Int) - 1) := hide (by rw [HF.out, hP1, hP2])
      rw [← hP1] at HCL hcl
      rw [← hP2] at HCM hcm
      have hca : 0 ≤ ca ∧ ca ≤ 1000000 := by omega
      have hcb : 0 ≤ cb ∧ cb ≤ 1000000 := by omega
      have HPL := hide hpl
      clear hr hl0 hrt hd1 hl hP1 hP2 hpl hcl hcm hlt HF
      go_enter Try.func21, Try.ntmps21
      go_wp2
      go_loopw [3, 4, 13] (SoRel x t w) (fun _ _ i _ => t.length - (intOf i).toNat)
      case atStart => exact ⟨0, by omega, rfl, OW.nil, OW.nil, fun k h => by simp [Value.ownBlock] at h, Kp.refl _⟩
      case round =>
        obtain ⟨k, hk, rfl, hol, hom, hdis, hkp⟩ := hrel
        by_cases hlt : k < t.length
        · obtain ⟨b', o', e1, _, c1⟩ := (HRT.out.kp hkp).int hlt
          injection e1 with e1
          injection e1 with e2 e3
          subst e2 e3
          have c9 := hkp.cell c0
          have hil := hol.hi
          have him := hom.hi
          have hll := lessL_len x (t.take k)
          have hml := moreL_len x (t.take k)
          have hs1 := lessL_snoc x t k hlt
          have hs2 := moreL_snoc x t k hlt
          obtain ⟨X, hX⟩ : ∃ X, X = lessL x (t.take k) := ⟨_, rfl⟩
          obtain ⟨Y, hY⟩ : ∃ Y, Y = moreL x (t.take k) := ⟨_, rfl⟩
          obtain ⟨y, hy⟩ : ∃ y, y = t[k] := ⟨_, rfl⟩
          rw [← hX] at hol hs1 hll
          rw [← hY] at hom hs2 hml
          rw [← hy] at c1 hs1 hs2
          have hxl : X.length ≤ 1000 := by simp at hll; omega
          have hyl : Y.length ≤ 1000 := by simp at hml; omega
          have HLOL := hide hol.lo
          have HLOM := hide hom.lo
          obtain ⟨A4, c4, rfl, hc4, hm4⟩ := hol.rd.shape
          obtain ⟨A5, c5, rfl, hc5, hm5⟩ := hom.rd.shape
          have HOL := hide hol
          have HOM := hide hom
          have HDIS := hide hdis
          clear hll hml hX hY hy hol hom hdis
          by_cases hyx : y < x
          · rw [if_pos hyx] at hs1
            rw [if_pos hyx, List.append_nil] at hs2
            have HS1 := hide hs1
            have HS2 := hide hs2
            have HM1 : Hid ((X.length + [y].length) * 8 ≤ 140737488355328) := hide (by simp; omega)
            have HM2 : Hid (X.length + [y].length ≤ maxLen) := hide (by simp [maxLen]; omega)
            clear hs1 hs2
            go_wp2_with (at_builtin; (with_reducible refine list_app (B := w.heap.size) (l := X) (m := [y]) row_int (.slice A4 X.length c4) ?_ (.tmp 22) (.tmp 24) ?_ ?_ ?_ ?_ HM1.out HM2.out ?_ ?_); (with_reducible rfl); (with_reducible rfl); rfl; (exact HOL.out.alloc _); (show RD _ _ (.slice (some ⟨_, 0, none⟩) 1 1) _; (first | exact RD.new1 _ rfl | (refine RD.new1e _ ?_ rfl; simp; done))); (exact (hkp.alloc).size); intro v3 w3 ho3 hg3 hat3)
            go_roundw
            case rel => exact ⟨k + 1, by omega, by go_num, by rw [HS1.out]; exact ho3, by rw [HS2.out]; exact (HOM.out.alloc _).kept hg3 HDIS.out.symm.or, HDIS.out.next hat3 (HLOM.out.mono (by simp)), Kp.app hg3 hkp.alloc hil⟩
            case measure => simp [intOf]; omega
          · rw [if_neg hyx, List.append_nil] at hs1
            rw [if_neg hyx] at hs2
            have HS1 := hide hs1
            have HS2 := hide hs2
            have HM1 : Hid ((Y.length + [y].length) * 8 ≤ 140737488355328) := hide (by simp; omega)
            have HM2 : Hid (Y.length + [y].length ≤ maxLen) := hide (by simp [maxLen]; omega)
            have d1 : decide (y < x) = false := by simp; omega
            clear hs1 hs2 hyx
            go_wp2_with (at_builtin; (with_reducible refine list_app (B := w.heap.size) (l := Y) (m := [y]) row_int (.slice A5 Y.length c5) ?_ (.tmp 26) (.tmp 28) ?_ ?_ ?_ ?_ HM1.out HM2.out ?_ ?_); (with_reducible rfl); (with_reducible rfl); rfl; (exact HOM.out.alloc _); (show RD _ _ (.slice (some ⟨_, 0, none⟩) 1 1) _; (first | exact RD.new1 _ rfl | (refine RD.new1e _ ?_ rfl; simp; done))); (exact (hkp.alloc).size); intro v3 w3 ho3 hg3 hat3)
            go_roundw
            case rel => exact ⟨k + 1, by omega, by go_num, by rw [HS1.out]; exact (HOL.out.alloc _).kept hg3 HDIS.out.or, by rw [HS2.out]; exact ho3, (HDIS.out.symm.next hat3 (HLOL.out.mono (by simp))).symm, Kp.app hg3 hkp.alloc him⟩
            case measure => simp [intOf]; omega
        · have hS : t.take k = t := List.take_of_length_le (by omega)
          rw [hS] at hol hom
          have HOL := hide hol.rd
          have HOM := hide hom.rd
          have HKP := hide hkp
          have hpl := HPL.out
          obtain ⟨X, hX⟩ : ∃ X, X = lessL x t := ⟨_, rfl⟩
          obtain ⟨Y, hY⟩ : ∃ Y, Y = moreL x t := ⟨_, rfl⟩
          rw [← hX] at HOL HCL hpl
          rw [← hY] at HOM HCM hpl
          obtain ⟨A4, c4, rfl, hc4, hm4⟩ := HOL.out.shape
          obtain ⟨A5, c5, rfl, hc5, hm5⟩ := HOM.out.shape
          have hw1 : IntKind.i64.wrap ((X.length : Int) + (Y.length : Int)) = (X.length : Int) + (Y.length : Int) := IntWalk.i64_in _ (by omega)
          have hw2 : IntKind.i64.wrap ((X.length : Int) + (Y.length : Int) + ca) = (X.length : Int) + (Y.length : Int) + ca := IntWalk.i64_in _ (by omega)
          have hw3 : IntKind.i64.wrap ((X.length : Int) + (Y.length : Int) + ca + cb) = (X.length : Int) + (Y.length : Int) + ca + cb := IntWalk.i64_in _ (by omega)
          have HE : Hid ((X.length : Int) + (Y.length : Int) + ca + cb = (sortF (n + 1) l).2) := hide (by rw [HF2.out]; have := HLT.out; omega)
          clear hS hol hom hdis hpl hX hY
          go_wp2_with fail
          with_reducible refine (HCL.out _ _ HOL.out).mono ?_
          rintro e w1 ⟨rfl, hb1⟩
          have kk1 := Kp.of hb1
          clear hb1
          go_wp2_with fail
          with_reducible refine (HCM.out _ _ (HOM.out.kp kk1)).mono ?_
          rintro e w2 ⟨rfl, hb2⟩
          have kk2 := Kp.of hb2
          clear hb2
          go_wp2
          go_ret
          exact ⟨by rw [← HE.out]; rfl, (HKP.out.trans (kk1.trans kk2)).bel⟩

def UnRel (l : List Int) (w : World) (bv iv : Value) (wr : World) : Prop := ∃ (k : Nat) (tb : Bool), k ≤ l.length ∧ iv = .int .i64 k ∧ bv = .bool tb ∧ (tb = true ↔ ¬ (l.take k).Nodup) ∧ (∀ x ∈ l.take k, 0 ≤ x ∧ x ≤ 1000000) ∧ w = wr
def UiRel (l : List Int) (k : Nat) (y : Int) (w : World) (bv iv : Value) (wr : World) : Prop := ∃ (j : Nat) (tb : Bool), j ≤ k ∧ iv = .int .i64 j ∧ bv = .bool tb ∧ (tb = true ↔ (¬ (l.take k).Nodup ∨ y ∈ l.take j)) ∧ w = wr
set_option maxRecDepth 100000 in
set_option maxHeartbeats 4000000 in
theorem unlike_any (l : List Int) (v : Value) (w : World) (hr : RD w eInt v l) : Calls Try.prog 15 #[v] w (Ret (.int .i64 (rightG l)) w) := by
  obtain ⟨A, c, rfl, hc, hm⟩ := hr.shape
  by_cases hlen : l.length > 200
  · have H1 : Hid (rightG l = 2) := hide (by rw [rightG, if_pos hlen])
    clear hr
    go_enter Try.func15, Try.ntmps15
    go_wp2
    go_ret
    exact ⟨by rw [H1.out]; rfl, Below.refl _ _⟩
  · have HR := hide hr
    clear hr
    go_enter Try.func15, Try.ntmps15
    go_wp2
    go_loopw [3, 13] (UnRel l w) (fun _ i _ => l.length - (intOf i).toNat)
    case atStart => exact ⟨0, false, by omega, rfl, rfl, by simp, by simp, rfl⟩
    case round =>
      obtain ⟨k, tb, hk, rfl, rfl, htb, hin, rfl⟩ := hrel
      have HTB := hide htb
      have HIN := hide hin
      clear htb hin
      by_cases hlt : k < l.length
      · obtain ⟨b, o, rfl, _, c0⟩ := HR.out.int hlt
        obtain ⟨y, hy⟩ : ∃ y, y = l[k] := ⟨_, rfl⟩
        rw [← hy] at c0
        have HT : Hid (l.take (k + 1) = l.take k ++ [y]) := hide (by rw [List.take_succ_eq_append_getElem hlt, hy])
        have HYM : Hid (y ∈ l) := hide (by rw [hy]; exact List.getElem_mem hlt)
        clear hy
        by_cases hb : 0 ≤ y ∧ y ≤ 1000000
        · have hbt : btw y 0 1000000 = true := (btw_iff _ _ _).2 hb
          have HB := hide hb
          clear hb
          have HBT := hide hbt
          clear hbt
          go_wp2_with (go_at_call 36; refine (between_to _ _ _ true _ HBT.out).mono ?_; rintro e w' ⟨rfl, rfl⟩)
          go_loopw [3, 25] (UiRel l k y w) (fun _ i _ => k - (intOf i).toNat)
          case atStart => exact ⟨0, tb, by omega, rfl, rfl, by rw [HTB.out]; simp, rfl⟩
          case round =>
            obtain ⟨j, tc, hj, rfl, rfl, htc, rfl⟩ := hrel
            have HTC := hide htc
            clear htc
            by_cases hltj : j < k
            · obtain ⟨b', o', e1, _, c1⟩ := HR.out.int (k := j) (by omega)
              injection e1 with e1
              injection e1 with e2 e3
              subst e2 e3
              obtain ⟨z, hz⟩ : ∃ z, z = l[j] := ⟨_, rfl⟩
              rw [← hz] at c1
              have HTJ : Hid (l.take (j + 1) = l.take j ++ [z]) := hide (by rw [List.take_succ_eq_append_getElem (by omega), hz])
              clear hz
              cases tc with
              | true =>
                go_wp2
                go_roundw
                case rel => exact ⟨j + 1, true, by omega, by go_num, rfl, by rw [HTJ.out]; have := HTC.out.1 rfl; simp only [true_iff]; rcases this with h | h; exact .inl h; exact .inr (by simp [h]), rfl⟩
                case measure => simp [intOf]; omega
              | false =>
                have hno : ¬ (¬ (l.take k).Nodup ∨ y ∈ l.take j) := fun h => by have := HTC.out.2 h; cases this
                have HNO := hide hno
                clear hno
                by_cases hzy : z = y
                · subst hzy
                  go_wp2
                  go_roundw
                  case rel => exact ⟨j + 1, true, by omega, by go_num, rfl, by rw [HTJ.out]; simp, rfl⟩
                  case measure => simp [intOf]; omega
                · have b0 : (z == y) = false := by simpa using hzy
                  go_wp2
                  go_roundw
                  case rel => exact ⟨j + 1, false, by omega, by go_num, rfl, by rw [HTJ.out]; have := HNO.out; simp only [List.mem_append, List.mem_singleton]; constructor; (intro h; cases h); (intro h; exfalso; rcases h with h | h | h; exact this (.inl h); exact this (.inr h); exact hzy h.symm), rfl⟩
                  case measure => simp [intOf]; omega
            · have hjk : j = k := by omega
              subst hjk
              go_wp2
              go_roundw
              case rel =>
                refine ⟨j + 1, tc, by omega, by go_num, rfl, ?_, ?_, rfl⟩
                · rw [HTC.out, HT.out, List.nodup_append]
                  constructor
                  · rintro (h | h)
                    · exact fun h9 => h h9.1
                    · exact fun h9 => h9.2.2 y h y (by simp) rfl
                  · intro h
                    by_cases h9 : (l.take j).Nodup
                    · refine .inr (Decidable.byContradiction fun h8 => h ⟨h9, by simp, fun a ha b hb => ?_⟩)
                      simp at hb; subst hb
                      rintro rfl; exact h8 ha
                    · exact .inl h9
                · rw [HT.out]
                  intro x hx
                  rcases List.mem_append.1 hx with hx | hx
                  · exact HIN.out x hx
                  · simp at hx; subst hx; exact HB.out
              case measure => simp [intOf]; omega
        · have H1 : Hid (rightG l = 3) := hide (by rw [rightG, if_neg hlen, if_pos]; intro h; exact hb (h y HYM.out))
          have HBT := hide ((btw_f_iff y 0 1000000).2 hb)
          clear hb
          go_wp2_with (go_at_call 36; refine (between_to _ _ _ false _ HBT.out).mono ?_; rintro e w' ⟨rfl, rfl⟩)
          go_ret
          exact ⟨by rw [H1.out]; rfl, Below.refl _ _⟩
      · have hkl : l.take k = l := List.take_of_length_le (by omega)
        have hki : keysIn l := fun x hx => by have := HIN.out; rw [hkl] at this; exact this x hx
        have hnd := HTB.out
        rw [hkl] at hnd
        cases tb with
        | true =>
          have H1 : Hid (rightG l = 5) := hide (by rw [rightG, if_neg hlen, if_neg (by simpa using hki), if_pos (hnd.1 rfl)])
          clear hkl hki hnd
          go_wp2
          go_ret
          exact ⟨by rw [H1.out]; rfl, Below.refl _ _⟩
        | false =>
          have H1 : Hid (rightG l = 0) := hide (by rw [rightG, if_neg hlen, if_neg (by simpa using hki), if_neg (fun h => by have := hnd.2 h; cases this)])
          clear hkl hki hnd
          go_wp2
          go_ret
          exact ⟨by rw [H1.out]; rfl, Below.refl _ _⟩

/-- What the search for the next key has met. -/
def Mn (l : List Int) (j : Nat) (la ne : Int) : Prop := (ne = -1 ∧ ∀ x ∈ l.take j, ¬ la < x) ∨ (la < ne ∧ 0 ≤ ne ∧ ne ∈ l.take j ∧ ∀ x ∈ l.take j, la < x → ne ≤ x)
theorem Mn.snoc {l : List Int} {j : Nat} (hj : j < l.length) {la ne : Int} (h : Mn l j la ne) (h0 : 0 ≤ l[j]) :
    (la < l[j] → (ne < 0 ∨ l[j] < ne) → Mn l (j + 1) la l[j]) ∧ (¬ (la < l[j] ∧ (ne < 0 ∨ l[j] < ne)) → Mn l (j + 1) la ne) := by
  have ht := List.take_succ_eq_append_getElem hj
  have hm : ∀ x, x ∈ l.take (j + 1) ↔ x ∈ l.take j ∨ x = l[j] := fun x => by rw [ht, List.mem_append, List.mem_singleton]
  constructor
  · intro h1 h2
    refine .inr ⟨h1, h0, (hm _).2 (.inr rfl), fun x hx hl => ?_⟩
    rcases (hm x).1 hx with hx | rfl
    · rcases h with ⟨e, h⟩ | ⟨a, b, c, d⟩
      · exact absurd hl (h x hx)
      · have := d x hx hl; omega
    · exact Int.le_refl _
  · intro h1
    rcases h with ⟨e, h⟩ | ⟨a, b, c, d⟩
    · refine .inl ⟨e, fun x hx => ?_⟩
      rcases (hm x).1 hx with hx | rfl
      · exact h x hx
      · intro h9; exact h1 ⟨h9, by omega⟩
    · refine .inr ⟨a, b, (hm _).2 (.inl c), fun x hx hl => ?_⟩
      rcases (hm x).1 hx with hx | rfl
      · exact d x hx hl
      · apply Decidable.byContradiction; intro h9; exact h1 ⟨hl, by omega⟩
/-- The next one is the one in its place. -/
theorem Mn.end_ {l S : List Int} {i : Nat} {la ne : Int} (h : Mn l l.length la ne) (hS : S.Pairwise (fun a b => a < b)) (hm : ∀ y, y ∈ S ↔ y ∈ l) (hi : i < S.length) (hla : ∀ j (h : j < S.length), la < S[j] ↔ i ≤ j) : ne = S[i] := by
  rw [Mn, List.take_length] at h
  have hup := List.pairwise_iff_getElem.1 hS
  rcases h with ⟨e, h⟩ | ⟨a, b, c, d⟩
  · exact absurd ((hla i hi).2 (Nat.le_refl _)) (h _ ((hm _).1 (List.getElem_mem hi)))
  · obtain ⟨m, hmm, he⟩ := List.getElem_of_mem ((hm _).2 c)
    have h1 := (hla m hmm).1 (by rw [he]; exact a)
    have h2 := d S[i] ((hm _).1 (List.getElem_mem hi)) ((hla i hi).2 (Nat.le_refl _))
    rcases Nat.lt_or_ge i m with h3 | h3
    · have := hup i m hi hmm h3; omega
    · obtain rfl : m = i := by omega
      exact he.symm
def SkRel (l S : List Int) (w : World) (ov lv iv : Value) (wr : World) : Prop := ∃ (i : Nat) (la : Int), i ≤ l.length ∧ iv = .int .i64 i ∧ lv = .int .i64 la ∧ OW wr w.heap.size 3 eInt ov (S.take i) ∧ (∀ j (h : j < S.length), la < S[j] ↔ i ≤ j) ∧ Kp w wr
def SjRel (l : List Int) (la : Int) (w : World) (nv jv : Value) (wr : World) : Prop := ∃ (j : Nat) (ne : Int), j ≤ l.length ∧ jv = .int .i64 j ∧ nv = .int .i64 ne ∧ Mn l j la ne ∧ w = wr
set_option maxRecDepth 100000 in
set_option maxHeartbeats 4000000 in
theorem sortedKeys_any (l S : List Int) (v : Value) (w : World) (hr : RD w eInt v l) (hn : l.length ≤ 1000) (hSl : S.length = l.length) (hS : S.Pairwise (fun a b => a < b)) (hm : ∀ y, y ∈ S ↔ y ∈ l) (hk : ∀ y ∈ l, 0 ≤ y) : Calls Try.prog 20 #[v] w (RetOW 3 eInt S w) := by
  obtain ⟨A, c, rfl, hc, hm9⟩ := hr.shape
  have HR := hide hr
  have HSL := hide hSl
  have HEND := hide (fun la ne i hi h hla => Mn.end_ (i := i) (la := la) (ne := ne) h hS hm hi hla)
  have HK := hide hk
  have HUP := hide (List.pairwise_iff_getElem.1 hS)
  have H0 : Hid (∀ j (h : j < S.length), (-1 : Int) < S[j] ↔ 0 ≤ j) := hide (fun j h => by have := hk _ ((hm _).1 (List.getElem_mem h)); omega)
  clear hr hSl hS hm hk
  go_enter Try.func20, Try.ntmps20
  go_wp2
  go_loopw [3, 4, 10] (SkRel l S w) (fun _ _ i _ => l.length - (intOf i).toNat)
  case atStart => exact ⟨0, -1, by omega, rfl, rfl, OW.nil, H0.out, Kp.refl _⟩
  case round =>
    obtain ⟨i, la, hi, rfl, rfl, ho, hla, hkp⟩ := hrel
    have hhi := ho.hi
    have HO := hide ho
    have HLA := hide hla
    clear ho hla
    by_cases hlt : i < l.length
    · go_wp2
      go_loopw [5, 14] (SjRel l la wr) (fun _ j _ => l.length - (intOf j).toNat)
      case atStart => exact ⟨0, -1, by omega, rfl, rfl, .inl ⟨rfl, by simp⟩, rfl⟩
      case round =>
        obtain ⟨j, ne, hj, rfl, rfl, hmn, rfl⟩ := hrel
        have HMN := hide hmn
        clear hmn
        by_cases hltj : j < l.length
        · obtain ⟨b, o, rfl, _, c0⟩ := (HR.out.kp hkp).int hltj
          have hs := HMN.out.snoc hltj (HK.out _ (List.getElem_mem hltj))
          obtain ⟨y, hy⟩ : ∃ y, y = l[j] := ⟨_, rfl⟩
          rw [← hy] at c0 hs
          obtain ⟨hs1, hs2⟩ := hs
          have HS1 := hide hs1
          have HS2 := hide hs2
          clear hy hs1 hs2
          by_cases h1 : la < y
          · by_cases h2 : ne < 0
            · have HN := hide (HS1.out h1 (.inl h2))
              go_wp2
              go_roundw
              case rel => exact ⟨j + 1, y, by omega, by go_num, rfl, HN.out, rfl⟩
              case measure => simp [intOf]; omega
            · by_cases h3 : y < ne
              · have HN := hide (HS1.out h1 (.inr h3))
                have d2 : decide (ne < 0) = false := by simp; omega
                go_wp2
                go_roundw
                case rel => exact ⟨j + 1, y, by omega, by go_num, rfl, HN.out, rfl⟩
                case measure => simp [intOf]; omega
              · have HN := hide (HS2.out (fun h => by omega))
                have d2 : decide (ne < 0) = false := by simp; omega
                have d3 : decide (y < ne) = false := by simp; omega
                go_wp2
                go_roundw
                case rel => exact ⟨j + 1, ne, by omega, by go_num, rfl, HN.out, rfl⟩
                case measure => simp [intOf]; omega
          · have HN := hide (HS2.out (fun h => h1 h.1))
            have d1 : decide (la < y) = false := by simp; omega
            go_wp2
            go_roundw
            case rel => exact ⟨j + 1, ne, by omega, by go_num, rfl, HN.out, rfl⟩
            case measure => simp [intOf]; omega
        · have hiS : i < S.length := by rw [HSL.out]; exact hlt
          have hne := HEND.out la ne i hiS (by have := HMN.out; rwa [show j = l.length by omega] at this) HLA.out
          have HN : Hid (S.take i ++ [ne] = S.take (i + 1)) := hide (by rw [List.take_succ_eq_append_getElem hiS, hne])
          have HLA2 : Hid (∀ j (h : j < S.length), ne < S[j] ↔ i + 1 ≤ j) := hide (fun j h => by
            rw [hne]
            constructor
            · intro h1
              rcases Nat.lt_or_ge i j with h2 | h2
              · exact h2
              · rcases Nat.lt_or_ge j i with h3 | h3
                · have := HUP.out j i h hiS h3; omega
                · obtain rfl : i = j := by omega
                  omega
            · intro h1; exact HUP.out i j hiS h h1)
          have HM1 : Hid (((S.take i).length + [ne].length) * 8 ≤ 140737488355328) := hide (by simp; omega)
          have HM2 : Hid ((S.take i).length + [ne].length ≤ maxLen) := hide (by simp [maxLen]; omega)
          clear hne hiS
          go_wp2_with (at_builtin; (with_reducible refine list_app (B := w.heap.size) (l := S.take i) (m := [ne]) row_int u3 ?_ (.tmp 32) (.tmp 34) ?_ ?_ ?_ ?_ HM1.out HM2.out ?_ ?_); (with_reducible rfl); (with_reducible rfl); rfl; (exact HO.out.alloc _); (show RD _ _ (.slice (some ⟨_, 0, none⟩) 1 1) _; (focus ((repeat (first | (with_reducible assumption) | exact RD.new1 _ rfl | (refine RD.new1e _ ?_ rfl; simp; done) | (with_reducible apply RD.alloc) | (with_reducible apply RD.drew) | (with_reducible apply RD.drewN) | ((with_reducible apply RD.belowR); (with_reducible assumption)))); done))); (have := hkp.size; simp; omega); intro v3 w3 ho3 hg3 hat3)
          go_roundw
          case rel => exact ⟨i + 1, ne, by omega, by go_num, rfl, by rw [← HN.out]; exact ho3, HLA2.out, Kp.app hg3 hkp.alloc hhi⟩
          case measure => simp [intOf]; omega
    · have HT : Hid (S.take i = S) := hide (List.take_of_length_le (by rw [HSL.out]; omega))
      go_wp2
      go_ret
      exact ⟨_, rfl, by rw [← HT.out]; exact HO.out, hkp.bel⟩

def GgRel (z : List (O3 × An)) (w : World) (tv iv : Value) (wr : World) : Prop := ∃ (k : Nat) (p : Option Addr), k ≤ z.length ∧ iv = .int .i64 k ∧ tv = .pointer p ∧ TR wr (grT (z.take k)) p ∧ Kp w wr
set_option maxRecDepth 100000 in
set_option maxHeartbeats 4000000 in
theorem grown_any (ops : List O3) (ans : List An) (v u : Value) (w : World) (hr : RD w eOp v ops) (ha : RD w eAns u ans) (hl : ans.length = ops.length) : Calls Try.prog 23 #[v, u] w (RetTR (grT (ops.zip ans)) w) := by
  obtain ⟨A, c, rfl, hc, hm⟩ := hr.shape
  obtain ⟨Au, cu, rfl, hcu, hmu⟩ := ha.shape
  have HR := hide hr
  have HA := hide ha
  have hzl : (ops.zip ans).length = ops.length := by rw [List.length_zip, hl]; omega
  obtain ⟨z, hz⟩ : ∃ z, z = ops.zip ans := ⟨_, rfl⟩
  have HZ : Hid (∀ k (h : k < z.length) (h1 : k < ops.length) (h2 : k < ans.length), z[k] = (ops[k], ans[k])) := hide (by subst hz; intro k h h1 h2; simp)
  rw [← hz] at hzl ⊢
  have HZL := hide hzl
  have HAL := hide hl
  clear hr ha hz hzl hl
  go_enter Try.func23, Try.ntmps23
  go_wp2
  go_loopw [5, 10] (GgRel z w) (fun _ i _ => ops.length - (intOf i).toNat)
  case atStart => exact ⟨0, none, by omega, rfl, rfl, rfl, Kp.refl _⟩
  case round =>
    obtain ⟨k, p, hk, rfl, rfl, ht, hkp⟩ := hrel
    have HT := hide ht
    clear ht
    by_cases hlt : k < ops.length
    · have hka : k < ans.length := by rw [HAL.out]; exact hlt
      have hka' : (k : Int) < (ans.length : Int) := by omega
      obtain ⟨b, o, rfl, _, x0, x1, x2⟩ := (HR.out.kp hkp).op hlt
      obtain ⟨b', o', rfl, _, a0, _⟩ := (HA.out.kp hkp).ans hka
      have hkz : k < z.length := by rw [HZL.out]; exact hlt
      have hst := grT_snoc z k hkz
      rw [HZ.out k hkz hlt hka] at hst
      simp only [grS] at hst
      obtain ⟨T0, hT0⟩ : ∃ T0, T0 = grT (z.take k) := ⟨_, rfl⟩
      obtain ⟨er, her⟩ : ∃ er, er = ans[k].err := ⟨_, rfl⟩
      obtain ⟨⟨kd, ke, va⟩, hop⟩ : ∃ P, P = ops[k] := ⟨_, rfl⟩
      rw [← hT0] at HT hst
      rw [← her] at a0 hst
      rw [← hop] at x0 x1 x2 hst
      simp only at x0 x1 x2 hst
      have HST := hide hst
      have HLF := hide (fun W h => leaf_any T0 p ke W h)
      have HUL := hide (fun W h => unl_any T0 p ke W h)
      clear hT0 her hop hst
      by_cases he : er = 0
      · subst he
        by_cases h1 : kd = 1
        · subst h1
          have HN : Hid (grT (z.take (k + 1)) = leafT T0 ke) := hide (by rw [HST.out]; simp)
          go_wp2_with fail
          with_reducible refine (HLF.out _ (HT.out.kp (by (focus ((repeat (first | (with_reducible assumption) | (with_reducible exact Kp.refl _) | (with_reducible apply Kp.drew) | (with_reducible apply Kp.drewN) | ((with_reducible apply Kp.setR); (focus (first | (with_reducible assumption) | (simp; done) | (simp; omega)))) | (with_reducible apply Kp.alloc) | ((with_reducible apply Kp.call); (with_reducible assumption)) | ((with_reducible apply Kp.app); (with_reducible assumption)))); done))))).mono ?_
          rintro e w1 ⟨p1, rfl, ht1, hb1⟩
          have kk1 : Kp wr w1 := (Kp.refl wr).alloc.trans hb1
          have HT1 := hide ht1
          clear ht1 hb1
          go_wp2
          go_roundw
          case rel => exact ⟨k + 1, p1, by omega, by go_num, rfl, by rw [HN.out]; exact HT1.out, hkp.trans kk1⟩
          case measure => simp [intOf]; omega
        · by_cases h3 : kd = 3
          · subst h3
            have HN : Hid (grT (z.take (k + 1)) = unlT T0 ke) := hide (by rw [HST.out]; simp)
            go_wp2_with fail
            with_reducible refine (HUL.out _ (HT.out.kp (by (focus ((repeat (first | (with_reducible assumption) | (with_reducible exact Kp.refl _) | (with_reducible apply Kp.drew) | (with_reducible apply Kp.drewN) | ((with_reducible apply Kp.setR); (focus (first | (with_reducible assumption) | (simp; done) | (simp; omega)))) | (with_reducible apply Kp.alloc) | ((with_reducible apply Kp.call); (with_reducible assumption)) | ((with_reducible apply Kp.app); (with_reducible assumption)))); done))))).mono ?_
            rintro e w1 ⟨p1, rfl, ht1, hb1⟩
            have kk1 : Kp wr w1 := (Kp.refl wr).alloc.trans hb1
            have HT1 := hide ht1
            clear ht1 hb1
            go_wp2
            go_roundw
            case rel => exact ⟨k + 1, p1, by omega, by go_num, rfl, by rw [HN.out]; exact HT1.out, hkp.trans kk1⟩
            case measure => simp [intOf]; omega
          · have HN : Hid (grT (z.take (k + 1)) = T0) := hide (by rw [HST.out]; simp [h1, h3])
            have d1 : (kd == 1) = false := by simpa using h1
            have d3 : (kd == 3) = false := by simpa using h3
            go_wp2
            go_roundw
            case rel => exact ⟨k + 1, p, by omega, by go_num, rfl, by rw [HN.out]; exact HT.out.kp (Kp.refl wr).alloc, hkp.alloc⟩
            case measure => simp [intOf]; omega
      · have HN : Hid (grT (z.take (k + 1)) = T0) := hide (by rw [HST.out]; simp [he])
        have d1 : (er != 0) = true := by simpa using he
        go_wp2
        go_roundw
        case rel => exact ⟨k + 1, p, by omega, by go_num, rfl, by rw [HN.out]; exact HT.out.kp (Kp.refl wr).alloc, hkp.alloc⟩
        case measure => simp [intOf]; omega
    · have HE : Hid (z.take k = z) := hide (List.take_of_length_le (by rw [HZL.out]; omega))
      go_wp2
      go_ret
      exact ⟨_, rfl, by rw [← HE.out]; exact HT.out, hkp.bel⟩
end Go.Proofs.Ytnallpdmdhbidaa
