/-
  hedgkeep.threeSpots: what it answers. Conditions: none.
  Trees of the references that are only read (TR); hedgref.Spots: what it answers. Conditions: the tree is of fewer than 2^30 nodes with the depth.
  hedgref.TreeOf, hedgref.SpotsRight: what they answer. Conditions: the list reads as l (RD).
  Plain laws: hedgref.TreeOf makes of right spots the tree that shape.Parents reads, and these spots again; hedgref.SpotsRight: what it answers. Conditions: the list reads as l (RD).
  goat.Even, hedgkeep.goatLives: what they answer. Conditions: the keys read as ints (RD), the table (DTb).
  hedgref.SpotKeys: the keys of a list. Conditions: the list reads as l (RD) and of fewer than 2^43 spots.
  hedgref.MapKeys: what it answers. Conditions: the list reads as l (RD).
-/
import Derived.Test.YtpkkajglbklboaaDoorG25
import Derived.Test.YtpkkajglbklboaaDoorG11
import Derived.Test.YtpkkajglbklboaaDoorG1
import Derived.Test.YtpkkajglbklboaaDoorG7
import Derived.Test.YtpkkajglbklboaaDoorG8
import Derived.Test.YtpkkajglbklboaaDoorG17

namespace Go.Proofs.YtpkkajglbklboaaDoor
open Go.ChangeShapes Go.WideShapes Go.ChangeAt Go.RowKit
set_option linter.unusedVariables false
set_option linter.unusedSimpArgs false

theorem three_any (w : World) : Calls Tryd.prog 33 #[] w fun e w' => ∃ v, e = .returned v ∧ RD w' ePair v [(1, 1), (2, 0), (3, 1)] ∧ Kp w w' := by
  go_enter Tryd.func33, Tryd.ntmps33
  go_wp2
  go_ret
  exact ⟨_, rfl, RD.block (l := [(1, 1), (2, 0), (3, 1)]) (heap_alloc_new w _) rfl (by simp [maxLen]), (Kp.refl w).alloc⟩
end Go.Proofs.YtpkkajglbklboaaDoor
namespace Go.Proofs.YtpkkajglbklboaaDoor
open Go.ChangeShapes Go.WideShapes Go.ChangeAt Go.RowKit
set_option linter.unusedVariables false
set_option linter.unusedSimpArgs false

inductive T where
  | nil
  | node (k : Int) (l r : T)
def T.size : T → Nat
  | .nil => 0
  | .node _ l r => l.size + 1 + r.size
def T.spots : T → Int → List IP
  | .nil, _ => []
  | .node k l r, d => l.spots (d + 1) ++ [(k, d)] ++ r.spots (d + 1)
theorem T.spots_len : ∀ (t : T) (d : Int), (t.spots d).length = t.size
  | .nil, _ => rfl
  | .node k l r, d => by simp [T.spots, T.size, T.spots_len l, T.spots_len r]; omega

def TR (w : World) : T → Option Addr → Prop
  | .nil, p => p = none
  | .node k l r, p => ∃ b pl pr, p = some ⟨b, 0, none⟩ ∧ b < w.heap.size ∧ w.cell? ⟨b, 0, none⟩ = some (.int .i64 k) ∧ w.cell? ⟨b, 1, none⟩ = some (.pointer pl) ∧ w.cell? ⟨b, 2, none⟩ = some (.pointer pr) ∧ TR w l pl ∧ TR w r pr
theorem TR.keep {w w' : World} (hs : w.heap.size ≤ w'.heap.size) (hk : ∀ p : Addr, p.block < w.heap.size → w'.cell? p = w.cell? p) : ∀ {t : T} {v : Option Addr}, TR w t v → TR w' t v
  | .nil, _, h => h
  | .node _ _ _, _, ⟨b, pl, pr, h1, h2, h3, h4, h5, h6, h7⟩ => ⟨b, pl, pr, h1, by omega, (hk _ h2).trans h3, (hk _ h2).trans h4, (hk _ h2).trans h5, TR.keep hs hk h6, TR.keep hs hk h7⟩
theorem TR.kp {w w' : World} {t : T} {v : Option Addr} (h : TR w t v) (hb : Kp w w') : TR w' t v := TR.keep (Kp.size hb) (fun p hp => Below.cell (Kp.bel hb) hp) h
theorem TR.below {w w' : World} {t : T} {v : Option Addr} (h : TR w t v) (hb : Below w.heap.size w w') : TR w' t v := TR.keep hb.size (fun p hp => hb.cell hp) h

theorem TR.mk {w : World} {k : Int} {l r : T} {pl pr : Option Addr} (hl : TR w l pl) (hr : TR w r pr) (tt : TypeId) : TR (w.alloc (.cells #[.int .i64 k, .pointer pl, .pointer pr] tt)) (.node k l r) (some ⟨w.heap.size, 0, none⟩) := by
  have hk : Kp w (w.alloc (.cells #[.int .i64 k, .pointer pl, .pointer pr] tt)) := (Kp.refl w).alloc
  exact ⟨w.heap.size, pl, pr, rfl, by simp, cell_of_row _ _ 0 _ tt (0, 0) (heap_alloc_new w _), cell_of_row _ _ 1 _ tt (0, 0) (heap_alloc_new w _), cell_of_row _ _ 2 _ tt (0, 0) (heap_alloc_new w _), hl.kp hk, hr.kp hk⟩
def RetTR (t : T) (w : World) (e : Ending) (w' : World) : Prop := ∃ p, e = .returned (.pointer p) ∧ TR w' t p ∧ Below w.heap.size w w'

set_option maxRecDepth 100000 in
set_option maxHeartbeats 400000 in
theorem spots_any : ∀ (t : T) (v : Option Addr) (d : Int) (w : World), TR w t v → 0 ≤ d → d + t.size ≤ 1073741824 →
    Calls Tryd.prog 14 #[.pointer v, .int .i64 d] w (RetOW 70 ePair (t.spots d) w)
  | .nil, v, d, w, h, h0, h1 => by
    have h' : v = none := h
    subst h'
    go_enter Tryd.func14, Tryd.ntmps14
    go_wp2
    go_ret
    exact ⟨_, rfl, OW.nil, Below.refl _ _⟩
  | .node k l r, v, d, w, h, h0, h1 => by
    obtain ⟨b, pl, pr, rfl, hb, c0, c1, c2, hl, hr⟩ := h
    simp only [T.size] at h1
    have HI := hide (fun w h => spots_any l pl (d + 1) w h (by omega) (by omega))
    have HJ := hide (fun w h => spots_any r pr (d + 1) w h (by omega) (by omega))
    have HL := hide hl
    have HR := hide hr
    clear hl hr
    have HM1 : Hid (((l.spots (d + 1)).length + [(k, d)].length) * 16 ≤ 140737488355328) := hide (by rw [T.spots_len]; simp; omega)
    have HM2 : Hid ((l.spots (d + 1)).length + [(k, d)].length ≤ maxLen) := hide (by rw [T.spots_len]; simp [maxLen]; omega)
    have HM3 : Hid (((l.spots (d + 1) ++ [(k, d)]).length + (r.spots (d + 1)).length) * 16 ≤ 140737488355328) := hide (by rw [List.length_append, T.spots_len, T.spots_len]; simp; omega)
    have HM4 : Hid ((l.spots (d + 1) ++ [(k, d)]).length + (r.spots (d + 1)).length ≤ maxLen) := hide (by rw [List.length_append, T.spots_len, T.spots_len]; simp [maxLen]; omega)
    have KS : Hid (∀ W', Kp w W' → (W'.cell? ⟨b, 0, none⟩ = some (.int .i64 k) ∧ W'.cell? ⟨b, 1, none⟩ = some (.pointer pl) ∧ W'.cell? ⟨b, 2, none⟩ = some (.pointer pr) ∧ Kp w W')) :=
      hide fun W' h => ⟨h.cell c0, h.cell c1, h.cell c2, h⟩
    have K0 := Kp.refl w
    have K1 := K0.drew
    have hw : IntKind.i64.wrap (d + 1) = d + 1 := IntWalk.i64_in _ (by omega)
    clear h0 h1
    go_enter Tryd.func14, Tryd.ntmps14
    go_wp2_with fail
    go_region_held3 (fun w' => w'.cell? ⟨b, 0, none⟩ = some (.int .i64 k) ∧ w'.cell? ⟨b, 1, none⟩ = some (.pointer pl) ∧ w'.cell? ⟨b, 2, none⟩ = some (.pointer pr) ∧ Kp w w')
      ((go_split_ands
        refine KS.out _ ?_
        (focus ((repeat (first | (with_reducible assumption) | (with_reducible exact Kp.refl _) | (with_reducible apply Kp.drew) | (with_reducible apply Kp.drewN) | ((with_reducible apply Kp.setR); (focus (first | (with_reducible assumption) | (simp; done) | (simp; omega)))) | (with_reducible apply Kp.alloc) | ((with_reducible apply Kp.call); (with_reducible assumption)) | ((with_reducible apply Kp.app); (with_reducible assumption)))); done))))
      (first
        | (go_at_call_of 14 (Value.pointer pl); refine (HI.out _ (HL.out.below (Kp.bel ?_))).mono ?_; (go_split_ands; (focus ((repeat (first | (with_reducible assumption) | (with_reducible exact Kp.refl _) | (with_reducible apply Kp.drew) | (with_reducible apply Kp.drewN) | ((with_reducible apply Kp.setR); (focus (first | (with_reducible assumption) | (simp; done) | (simp; omega)))) | (with_reducible apply Kp.alloc) | ((with_reducible apply Kp.call); (with_reducible assumption)) | ((with_reducible apply Kp.app); (with_reducible assumption)))); done))); rintro e w1 ⟨v1, rfl, ho1', hb1⟩; have ho1 := OW.more ho1' (Kp.size (w := w) (by go_split_ands; (focus ((repeat (first | (with_reducible assumption) | (with_reducible exact Kp.refl _) | (with_reducible apply Kp.drew) | (with_reducible apply Kp.drewN) | ((with_reducible apply Kp.setR); (focus (first | (with_reducible assumption) | (simp; done) | (simp; omega)))) | (with_reducible apply Kp.alloc) | ((with_reducible apply Kp.call); (with_reducible assumption)) | ((with_reducible apply Kp.app); (with_reducible assumption)))); done)))); have lo1 := ho1.lo; have hi1 := ho1.hi; clear ho1')
        | (go_at_call_of 14 (Value.pointer pr); refine (HJ.out _ (HR.out.below (Kp.bel ?_))).mono ?_; (go_split_ands; (focus ((repeat (first | (with_reducible assumption) | (with_reducible exact Kp.refl _) | (with_reducible apply Kp.drew) | (with_reducible apply Kp.drewN) | ((with_reducible apply Kp.setR); (focus (first | (with_reducible assumption) | (simp; done) | (simp; omega)))) | (with_reducible apply Kp.alloc) | ((with_reducible apply Kp.call); (with_reducible assumption)) | ((with_reducible apply Kp.app); (with_reducible assumption)))); done))); rintro e w2 ⟨v2, rfl, ho2', hb2⟩; have ho2 := OW.more ho2' (Kp.size (w := w) (by go_split_ands; (focus ((repeat (first | (with_reducible assumption) | (with_reducible exact Kp.refl _) | (with_reducible apply Kp.drew) | (with_reducible apply Kp.drewN) | ((with_reducible apply Kp.setR); (focus (first | (with_reducible assumption) | (simp; done) | (simp; omega)))) | (with_reducible apply Kp.alloc) | ((with_reducible apply Kp.call); (with_reducible assumption)) | ((with_reducible apply Kp.app); (with_reducible assumption)))); done)))); try have hap := lo1.apart (Hi.mono ho2'.hi (by simp)); clear ho2')
        | ((with_reducible refine step_app (l := l.spots (d + 1)) (m := [(k, d)]) row_spot v1 ?_ (.tmp 13) (.tmp 20) ?_ ?_ ?_ ?_ HM1.out HM2.out (Kp.size (w := w) ?_) ?_); (with_reducible rfl); (with_reducible rfl); rfl; (focus ((repeat (first | (with_reducible assumption) | (with_reducible apply OW.alloc) | (with_reducible apply OW.drew) | (with_reducible apply OW.drewN) | ((with_reducible apply OW.setCellR); (with_reducible assumption)) | ((with_reducible apply OW.belowR); (with_reducible assumption)) | ((with_reducible apply OW.keptR); (with_reducible assumption); (with_reducible assumption)))); done)); (show RD _ _ (.slice (some ⟨_, 0, none⟩) 1 1) _; (focus ((repeat (first | (with_reducible assumption) | exact RD.new1 _ rfl | (refine RD.new1e _ ?_ rfl; simp; done) | (with_reducible apply RD.alloc) | (with_reducible apply RD.drew) | (with_reducible apply RD.drewN) | ((with_reducible apply RD.belowR); (with_reducible assumption)))); done))); (go_split_ands; (focus ((repeat (first | (with_reducible assumption) | (with_reducible exact Kp.refl _) | (with_reducible apply Kp.drew) | (with_reducible apply Kp.drewN) | ((with_reducible apply Kp.setR); (focus (first | (with_reducible assumption) | (simp; done) | (simp; omega)))) | (with_reducible apply Kp.alloc) | ((with_reducible apply Kp.call); (with_reducible assumption)) | ((with_reducible apply Kp.app); (with_reducible assumption)))); done))); intro v3 w3 ho3 hg3 hat3; have hi3 := ho3.hi)
        | ((with_reducible refine step_app (l := l.spots (d + 1) ++ [(k, d)]) (m := r.spots (d + 1)) row_spot v3 ?_ (.tmp 21) (.tmp 28) ?_ ?_ ?_ ?_ HM3.out HM4.out (Kp.size (w := w) ?_) ?_); (with_reducible rfl); (with_reducible rfl); rfl; (focus ((repeat (first | (with_reducible assumption) | (with_reducible apply OW.alloc) | (with_reducible apply OW.drew) | (with_reducible apply OW.drewN) | ((with_reducible apply OW.setCellR); (with_reducible assumption)) | ((with_reducible apply OW.belowR); (with_reducible assumption)) | ((with_reducible apply OW.keptR); (with_reducible assumption); (with_reducible assumption)))); done)); (show RD _ _ v2 _; refine OW.rd (B := w.heap.size) (e := 70) ?_; (focus ((repeat (first | (with_reducible assumption) | (with_reducible apply OW.alloc) | (with_reducible apply OW.drew) | (with_reducible apply OW.drewN) | ((with_reducible apply OW.setCellR); (with_reducible assumption)) | ((with_reducible apply OW.belowR); (with_reducible assumption)) | ((with_reducible apply OW.keptR); (with_reducible assumption); (with_reducible assumption)))); done))); (go_split_ands; (focus ((repeat (first | (with_reducible assumption) | (with_reducible exact Kp.refl _) | (with_reducible apply Kp.drew) | (with_reducible apply Kp.drewN) | ((with_reducible apply Kp.setR); (focus (first | (with_reducible assumption) | (simp; done) | (simp; omega)))) | (with_reducible apply Kp.alloc) | ((with_reducible apply Kp.call); (with_reducible assumption)) | ((with_reducible apply Kp.app); (with_reducible assumption)))); done))); intro v4 w4 ho4 hg4 hat4))
    all_goals
      go_wp2
      go_ret
      exact ⟨_, rfl, ho4, Kp.bel (by (focus ((repeat (first | (with_reducible assumption) | (with_reducible exact Kp.refl _) | (with_reducible apply Kp.drew) | (with_reducible apply Kp.drewN) | ((with_reducible apply Kp.setR); (focus (first | (with_reducible assumption) | (simp; done) | (simp; omega)))) | (with_reducible apply Kp.alloc) | ((with_reducible apply Kp.call); (with_reducible assumption)) | ((with_reducible apply Kp.app); (with_reducible assumption)))); done)))⟩
end Go.Proofs.YtpkkajglbklboaaDoor
namespace Go.Proofs.YtpkkajglbklboaaDoor
open Go.ChangeShapes Go.WideShapes Go.ChangeAt Go.RowKit
set_option linter.unusedVariables false
set_option linter.unusedSimpArgs false

theorem topF_spec (l : List IP) (lo : Nat) : ∀ n k a al, lo ≤ a → a < k → (∀ j, lo ≤ j → j < k → gv l a ≤ gv l j) → (al = true → ∀ j, lo ≤ j → j < k → j ≠ a → gv l a < gv l j) → (al = false → ∃ j, lo ≤ j ∧ j < k ∧ j ≠ a ∧ gv l j = gv l a) →
    lo ≤ (topF l n k a al).1 ∧ (topF l n k a al).1 < k + n ∧ (∀ j, lo ≤ j → j < k + n → gv l (topF l n k a al).1 ≤ gv l j) ∧ ((topF l n k a al).2 = true → ∀ j, lo ≤ j → j < k + n → j ≠ (topF l n k a al).1 → gv l (topF l n k a al).1 < gv l j) ∧
      ((topF l n k a al).2 = false → ∃ j, lo ≤ j ∧ j < k + n ∧ j ≠ (topF l n k a al).1 ∧ gv l j = gv l (topF l n k a al).1)
  | 0, k, a, al, h0, h1, h2, h3, h4 => ⟨h0, by simpa [topF] using h1, by simpa [topF] using h2, by simpa [topF] using h3, by simpa [topF] using h4⟩
  | n + 1, k, a, al, h0, h1, h2, h3, h4 => by
    rw [topF, show k + (n + 1) = (k + 1) + n from by omega]
    split
    · rename_i hlt
      refine topF_spec l lo n (k + 1) k true (by omega) (by omega) (fun j j1 j2 => ?_) (fun _ j j1 j2 j3 => ?_) (by simp)
      · rcases Nat.lt_or_ge j k with h | h
        · have := h2 j j1 h; omega
        · rw [show j = k from by omega]; exact Int.le_refl _
      · have := h2 j j1 (by omega); omega
    · rename_i hnl
      split
      · rename_i heq
        refine topF_spec l lo n (k + 1) a false h0 (by omega) (fun j j1 j2 => ?_) (by simp) (fun _ => ⟨k, by omega, by omega, by omega, heq⟩)
        rcases Nat.lt_or_ge j k with h | h
        · exact h2 j j1 h
        · rw [show j = k from by omega]; omega
      · rename_i hne
        refine topF_spec l lo n (k + 1) a al h0 (by omega) (fun j j1 j2 => ?_) (fun hal j j1 j2 j3 => ?_) (fun hal => ?_)
        · rcases Nat.lt_or_ge j k with h | h
          · exact h2 j j1 h
          · rw [show j = k from by omega]; omega
        · rcases Nat.lt_or_ge j k with h | h
          · exact h3 hal j j1 h j3
          · rw [show j = k from by omega]; omega
        · obtain ⟨j, a1, a2, a3, a4⟩ := h4 hal
          exact ⟨j, a1, by omega, a3, a4⟩
theorem topS_min (l : List IP) (lo hi : Nat) (h : lo < hi) : (∀ j, lo ≤ j → j < hi → gv l (topS l lo hi).1 ≤ gv l j) ∧ ((topS l lo hi).2 = true → ∀ j, lo ≤ j → j < hi → j ≠ (topS l lo hi).1 → gv l (topS l lo hi).1 < gv l j) := by
  have := topF_spec l lo (hi - (lo + 1)) (lo + 1) lo true (Nat.le_refl _) (by omega) (fun j a b => by rw [show j = lo from by omega]; exact Int.le_refl _) (fun _ j a b c => by omega) (by simp)
  rw [show lo + 1 + (hi - (lo + 1)) = hi from by omega] at this
  exact ⟨this.2.2.1, this.2.2.2.1⟩

def treeOf (l : List IP) (d : Int) : T × Bool :=
  if h : l = [] then (.nil, true)
  else
    have := topS_in l 0 l.length (List.length_pos_iff.2 h)
    if (topS l 0 l.length).2 = true ∧ gv l (topS l 0 l.length).1 = d then
      (.node (gk l (topS l 0 l.length).1) (treeOf (l.take (topS l 0 l.length).1) (d + 1)).1 (treeOf (l.drop ((topS l 0 l.length).1 + 1)) (d + 1)).1,
        (treeOf (l.take (topS l 0 l.length).1) (d + 1)).2 && (treeOf (l.drop ((topS l 0 l.length).1 + 1)) (d + 1)).2)
    else (.nil, false)
termination_by l.length
decreasing_by all_goals simp <;> omega
theorem treeOf_nil (d : Int) : treeOf [] d = (.nil, true) := by rw [treeOf]; simp
theorem treeOf_node (l : List IP) (d : Int) (m : Nat) (hm : m < l.length) (h1 : gv l m = d) (h2 : ∀ j, j < l.length → j ≠ m → d < gv l j) : treeOf l d = (.node (gk l m) (treeOf (l.take m) (d + 1)).1 (treeOf (l.drop (m + 1)) (d + 1)).1, (treeOf (l.take m) (d + 1)).2 && (treeOf (l.drop (m + 1)) (d + 1)).2) := by
  have ht := topS_find l 0 l.length m (by omega) hm (fun j _ b c => by rw [h1]; exact h2 j b c)
  rw [treeOf, dif_neg (by rintro rfl; simp at hm)]
  simp only [ht, h1, and_self, if_true]
theorem treeOf_none (l : List IP) (d : Int) (h0 : l ≠ []) (h : ¬ ∃ m, m < l.length ∧ gv l m = d ∧ ∀ j, j < l.length → j ≠ m → d < gv l j) : treeOf l d = (.nil, false) := by
  have hpos := List.length_pos_iff.2 h0
  rw [treeOf, dif_neg h0]
  simp only
  rw [if_neg]
  rintro ⟨h1, h2⟩
  have ht := topS_in l 0 l.length hpos
  have hmn := (topS_min l 0 l.length hpos).2 h1
  exact h ⟨_, ht.2, h2, fun j a b => by have := hmn j (by omega) a b; omega⟩

def TrPost (r : T × Bool) (w : World) (e : Ending) (w' : World) : Prop := ∃ p, e = .returned (.tuple #[.pointer p, .bool r.2]) ∧ TR w' r.1 p ∧ Below w.heap.size w w'
def ToRel (l : List IP) (d : Int) (w : World) (av iv : Value) (wr : World) : Prop :=
  ∃ (k : Nat) (a : Int), k ≤ l.length ∧ iv = .int .i64 k ∧ av = .int .i64 a ∧ (∀ j (h : j < l.length), j < k → d ≤ l[j].2) ∧ ((a = -1 ∧ ∀ j (h : j < l.length), j < k → l[j].2 ≠ d) ∨ ∃ (m : Nat) (hm : m < l.length), a = m ∧ m < k ∧ l[m].2 = d ∧ ∀ j (h : j < l.length), j < k → j ≠ m → l[j].2 ≠ d) ∧ Kp w wr

end Go.Proofs.YtpkkajglbklboaaDoor
namespace Go.Proofs.YtpkkajglbklboaaDoor
open Go.ChangeShapes Go.WideShapes Go.ChangeAt Go.RowKit
set_option linter.unusedVariables false
set_option linter.unusedSimpArgs false

def toT (l : List IP) : PT → T
  | .nil => .nil
  | .node p a b => .node (gk l p) (toT l a) (toT l b)
theorem seg_len (l : List IP) (lo hi : Nat) (h1 : lo ≤ hi) (h2 : hi ≤ l.length) : ((l.take hi).drop lo).length = hi - lo := by simp; omega
theorem seg_gv (l : List IP) (lo hi j : Nat) (h2 : hi ≤ l.length) (hj : j < hi - lo) : gv ((l.take hi).drop lo) j = gv l (lo + j) := by
  rw [gv_eq _ j (by rw [seg_len l lo hi (by omega) h2]; exact hj), gv_eq l (lo + j) (by omega)]; simp
theorem seg_gk (l : List IP) (lo hi j : Nat) (h2 : hi ≤ l.length) (hj : j < hi - lo) : gk ((l.take hi).drop lo) j = gk l (lo + j) := by
  rw [gk_eq _ j (by rw [seg_len l lo hi (by omega) h2]; exact hj), gk_eq l (lo + j) (by omega)]; simp
theorem seg_take (l : List IP) (lo hi m : Nat) (h : lo ≤ m) (hm : m ≤ hi) : ((l.take hi).drop lo).take (m - lo) = (l.take m).drop lo := by
  rw [List.take_drop, show lo + (m - lo) = m from by omega, List.take_take, Nat.min_eq_left hm]
theorem seg_drop (l : List IP) (lo hi m : Nat) (h : lo ≤ m) : ((l.take hi).drop lo).drop (m - lo + 1) = (l.take hi).drop (m + 1) := by
  rw [List.drop_drop]; congr 1; omega
theorem treeOf_seg (l : List IP) (lo hi : Nat) (d : Int) (h1 : lo ≤ hi) (h2 : hi ≤ l.length) :
    (treeOf ((l.take hi).drop lo) d).2 = (ptR l lo hi d).isSome ∧ ∀ t, ptR l lo hi d = some t → (treeOf ((l.take hi).drop lo) d).1 = toT l t := by
  by_cases hlt : lo < hi
  · have hsl := seg_len l lo hi h1 h2
    have htin := topS_in l lo hi hlt
    have hmin := topS_min l lo hi hlt
    by_cases hok : (topS l lo hi).2 = true ∧ gv l (topS l lo hi).1 = d
    · obtain ⟨m, hm⟩ : ∃ m, m = (topS l lo hi).1 := ⟨_, rfl⟩
      have htop : topS l lo hi = (m, true) := by rw [hm, ← hok.1]
      have hgd : gv l m = d := by rw [hm]; exact hok.2
      have hst := hmin.2 hok.1
      rw [← hm] at htin hst
      have hnode := treeOf_node ((l.take hi).drop lo) d (m - lo) (by omega) (by rw [seg_gv l lo hi _ h2 (by omega), show lo + (m - lo) = m from by omega, hgd]) (fun j j1 j2 => by
        rw [seg_gv l lo hi j h2 (by omega)]
        have := hst (lo + j) (by omega) (by omega) (by omega)
        omega)
      rw [seg_take l lo hi m (by omega) (by omega), seg_drop l lo hi m (by omega), seg_gk l lo hi _ h2 (by omega), show lo + (m - lo) = m from by omega] at hnode
      obtain ⟨a1, a2⟩ := treeOf_seg l lo m (d + 1) htin.1 (by omega)
      obtain ⟨b1, b2⟩ := treeOf_seg l (m + 1) hi (d + 1) (by omega) h2
      rw [hnode, ptR_node l lo hi d hlt m htop hgd]
      simp only
      rw [a1, b1]
      cases ha : ptR l lo m (d + 1) with
      | none => simp
      | some ta =>
        cases hb : ptR l (m + 1) hi (d + 1) with
        | none => simp
        | some tb =>
          refine ⟨rfl, fun t ht => ?_⟩
          simp only [Option.some.injEq] at ht
          subst ht
          rw [a2 ta ha, b2 tb hb]; rfl
    · rw [treeOf_none ((l.take hi).drop lo) d (by intro e; rw [e] at hsl; simp at hsl; omega) (by
        rintro ⟨x, x1, x2, x3⟩
        rw [hsl] at x1
        rw [seg_gv l lo hi x h2 x1] at x2
        have ht := topS_find l lo hi (lo + x) (by omega) (by omega) (fun j j1 j2 j3 => by
          have := x3 (j - lo) (by omega) (by omega)
          rw [seg_gv l lo hi _ h2 (by omega), show lo + (j - lo) = j from by omega] at this
          omega)
        exact hok ⟨by rw [ht], by rw [ht]; exact x2⟩), ptR_none l lo hi d hlt hok]
      exact ⟨rfl, fun t ht => by cases ht⟩
  · obtain rfl : lo = hi := by omega
    have : (l.take lo).drop lo = [] := by simp
    rw [this, treeOf_nil, ptR_nil l lo lo d hlt]
    exact ⟨rfl, fun t ht => by injection ht with ht; subst ht; rfl⟩
termination_by hi - lo
theorem treeOf_whole (l : List IP) : (treeOf l 0).2 = (ptR l 0 l.length 0).isSome ∧ ∀ t, ptR l 0 l.length 0 = some t → (treeOf l 0).1 = toT l t := by
  have := treeOf_seg l 0 l.length 0 (by omega) (Nat.le_refl _)
  simpa using this
theorem toT_spots (l : List IP) : ∀ (t : PT) (lo hi : Nat) (d : Int), t.At lo → hi = lo + t.size → hi ≤ l.length → (∀ j, j < t.size → some (gv l (lo + j)) = (t.deps d)[j]?) → (toT l t).spots d = (l.take hi).drop lo
  | .nil, lo, hi, d, _, h, _, _ => by simp [PT.size] at h; subst h; simp [toT, T.spots]
  | .node p a b, lo, hi, d, ⟨hp, ha, hb⟩, h, h3, hg => by
    simp only [PT.size] at h hg
    have hgp : gv l p = d := by
      have := hg a.size (by omega)
      rw [PT.deps_node, if_neg (by omega), if_pos rfl, ← hp] at this
      exact Option.some.inj this
    have ia := toT_spots l a lo p (d + 1) ha hp (by omega) (fun j hj => by
      have := hg j (by omega)
      rwa [PT.deps_node, if_pos hj] at this)
    have ib := toT_spots l b (p + 1) hi (d + 1) hb (by omega) h3 (fun j hj => by
      have := hg (a.size + 1 + j) (by omega)
      rw [PT.deps_node, if_neg (by omega), if_neg (by omega), show a.size + 1 + j - (a.size + 1) = j from by omega, show lo + (a.size + 1 + j) = p + 1 + j from by omega] at this
      exact this)
    rw [toT, T.spots, ia, ib, seg_split l lo p hi (by omega) (by omega) h3]
    have : ((gk l p, d) : IP) = l[p]'(by omega) := Prod.ext (gk_eq l p (by omega)) (by rw [← hgp]; exact gv_eq l p (by omega))
    rw [this]
theorem treeOf_spots (l : List IP) (h : (parOf l).2 = 0) : (treeOf l 0).1.spots 0 = l ∧ (treeOf l 0).2 = true := by
  obtain ⟨h1, h2, t, ht, _⟩ := parOf_len l h
  obtain ⟨h3, h4, h5⟩ := ptR_to l 0 l.length 0 t (by omega) ht
  obtain ⟨w1, w2⟩ := treeOf_whole l
  refine ⟨?_, by rw [w1, ht]; rfl⟩
  rw [w2 t ht, toT_spots l t 0 l.length 0 h3 (by omega) (Nat.le_refl _) h5]
  simp

end Go.Proofs.YtpkkajglbklboaaDoor
namespace Go.Proofs.YtpkkajglbklboaaDoor
open Go.ChangeShapes Go.WideShapes Go.ChangeAt Go.RowKit
set_option linter.unusedVariables false
set_option linter.unusedSimpArgs false

def evenA (ks : List Int) : List IP × Int := if krL ks = 0 then ((evenT ks).spotsBy Prod.fst 0, 0) else ([], krL ks)
theorem krL_len {l : List Int} (h : krL l = 0) : l.length ≤ 200 := by
  unfold krL at h
  split at h
  · omega
  · omega
set_option maxRecDepth 100000 in
set_option maxHeartbeats 2000000 in
theorem gtEvenF_any (ks : List Int) (v : Value) (w : World) (hr : RD w eInt v ks) (hdb : DTb w) : Calls Tryd.prog 11 #[v] w (Ret2 ePair (evenA ks) w) := by
  obtain ⟨A, c, rfl, hc, hm⟩ := hr.shape
  have HR := hide hr
  have HRO := hide (skRows_any ks _ w hr hdb)
  clear hr hdb
  by_cases h0 : krL ks = 0
  · have hlen := krL_len h0
    have H1 : Hid (evenA ks = ((evenT ks).spotsBy Prod.fst 0, 0)) := hide (by rw [evenA, if_pos h0])
    have e1 : rowsOf ks = (rowsN ks 12, 0) := by rw [rowsOf, if_pos h0]
    rw [e1] at HRO
    have HEV := hide (fun W v h => gtEven_any ks.length ks v W (Nat.le_refl _) (by omega) h)
    have HSZ : Hid ((evenT ks).size ≤ 1000) := hide (by rw [evenT_size]; omega)
    clear h0 e1
    go_enter Tryd.func11, Tryd.ntmps11
    go_wp2_with fail
    with_reducible refine HRO.out.mono ?_
    rintro e w1 ⟨v1, rfl, hr1, kk1⟩
    obtain ⟨A1, c1, rfl, _, _⟩ := hr1.shape
    clear hr1
    go_wp2_with fail
    with_reducible refine (HEV.out _ _ (HR.out.kp kk1)).mono ?_
    rintro e w2 ⟨p2, F2, rfl, hm2, _, hb2⟩
    have kk2 := Kp.of hb2
    have HTO := hide (gtTold_any (evenT ks) p2 F2 w2 hm2 HSZ.out)
    clear hm2 hb2
    go_wp2_with fail
    with_reducible refine HTO.out.mono ?_
    rintro e w3 ⟨v3, rfl, hr3, hb3⟩
    have kk3 := Kp.of hb3
    have HR3 := hide hr3
    clear hr3 hb3
    go_wp2
    go_ret2
    exact ⟨_, by rw [H1.out]; rfl, by rw [H1.out]; exact HR3.out, (kk1.trans (kk2.trans kk3)).bel⟩
  · have H1 : Hid (evenA ks = ([], krL ks)) := hide (by rw [evenA, if_neg h0])
    have e1 : rowsOf ks = ([], krL ks) := by rw [rowsOf, if_neg h0]
    rw [e1] at HRO
    obtain ⟨r, hr⟩ : ∃ r, r = krL ks := ⟨_, rfl⟩
    rw [← hr] at HRO H1 h0
    have d1 : (r != 0) = true := by simpa using h0
    clear h0 e1 hr
    go_enter Tryd.func11, Tryd.ntmps11
    go_wp2_with fail
    with_reducible refine HRO.out.mono ?_
    rintro e w1 ⟨v1, rfl, hr1, kk1⟩
    obtain ⟨A1, c1, rfl, _, _⟩ := hr1.shape
    clear hr1
    go_wp2
    go_ret2
    exact ⟨_, by rw [H1.out]; rfl, by rw [H1.out]; exact RD.nil, kk1.bel⟩
theorem goatLives_run : (goatRun ([1, 2, 3, 4, 5].map pO)).1.length = 5 ∧ (goatRun ([1, 2, 3, 4, 5].map pO)).2.1 = 4 ∧ (goatRun ([1, 2, 3, 4, 5].map pO)).2.2.2 = 0 := by decide +kernel
theorem goatLives_even : evenA [1, 2, 3] = ([(1, 1), (2, 0), (3, 1)], 0) := by decide +kernel
theorem goatLives_deep : deepA 4 = (3, 0) := by decide +kernel
set_option maxRecDepth 100000 in
set_option maxHeartbeats 4000000 in
theorem goatLives_any (w : World) (hdb : DTb w) : Calls Tryd.prog 9 #[] w (Ret (.bool true) w) := by
  have HDB := hide hdb
  have HPA := hide (fun W v h => putAll_any [1, 2, 3, 4, 5] v W h (by decide))
  have HRU := hide (fun W v h => goatRun_any ([1, 2, 3, 4, 5].map pO) v W h)
  have HEV := hide (fun W v h hd => gtEvenF_any [1, 2, 3] v W h hd)
  have HDE := hide (fun W => gtDeep_any 4 W)
  obtain ⟨e1, e2, e3⟩ := goatLives_run
  obtain ⟨⟨s, bu, an, er⟩, hP⟩ : ∃ P, P = goatRun ([1, 2, 3, 4, 5].map pO) := ⟨_, rfl⟩
  rw [← hP] at e1 e2 e3 HRU
  simp only at e1 e2 e3
  subst e2 e3
  rw [goatLives_even] at HEV
  rw [goatLives_deep] at HDE
  clear hP hdb
  go_enter Tryd.func9, Tryd.ntmps9
  go_wp2_with fail
  refine (HPA.out _ _ (RD.block (l := [1, 2, 3, 4, 5]) (heap_alloc_new w _) rfl (by simp [maxLen]))).mono ?_
  rintro e w1 ⟨v1, rfl, ho1, hb1⟩
  have kk1 : Kp w w1 := (Kp.refl w).alloc.trans (Kp.of hb1)
  have HR1 := hide ho1.rd
  clear ho1 hb1
  go_wp2_with fail
  with_reducible refine (HRU.out _ _ HR1.out).mono ?_
  rintro e w2 ⟨v2, u2, rfl, hr2, hu2, hb2⟩
  have kk2 := Kp.of hb2
  obtain ⟨A2, c2, rfl, _, _⟩ := hr2.shape
  obtain ⟨B2, d2, rfl, _, _⟩ := hu2.shape
  simp only at e1 ⊢
  clear hr2 hu2 hb2
  go_wp2_with fail
  refine (HEV.out _ _ (RD.block (l := [1, 2, 3]) (heap_alloc_new w2 _) rfl (by simp [maxLen])) (HDB.out.kp ((kk1.trans kk2).trans (Kp.refl w2).alloc))).mono ?_
  rintro e w3 ⟨v3, rfl, hr3, hb3⟩
  have kk3 : Kp w2 w3 := (Kp.refl w2).alloc.trans (Kp.of hb3)
  have HR3 := hide hr3
  clear hr3 hb3
  go_wp2_with fail
  with_reducible refine (HDE.out _).mono ?_
  rintro e w4 ⟨rfl, rfl⟩
  go_wp2_with fail
  refine (ok_any [0, 0, 0] _ _ (RD.block (l := [0, 0, 0]) (heap_alloc_new w3 _) rfl (by simp [maxLen]))).mono ?_
  rintro e w4 ⟨rfl, hw4⟩
  have kk4 : Kp w3 w4 := by rw [← hw4]; exact (Kp.refl w3).alloc
  have hok : okL [0, 0, 0] = true := rfl
  rw [hok]
  clear hw4 hok
  go_wp2_with fail
  with_reducible refine (three_any _).mono ?_
  rintro e w5 ⟨v5, rfl, hr5, kk5⟩
  have HR5 := hide hr5
  clear hr5
  go_wp2_with fail
  with_reducible refine (eqSpots_to _ _ true _ _ _ (HR3.out.kp (kk4.trans kk5)) HR5.out (by decide)).mono ?_
  rintro e w6 ⟨rfl, hb6⟩
  have kk6 := Kp.of hb6
  clear hb6
  go_wp2
  go_ret
  exact ⟨rfl, (kk1.trans (kk2.trans (kk3.trans (kk4.trans (kk5.trans kk6))))).bel⟩
end Go.Proofs.YtpkkajglbklboaaDoor
namespace Go.Proofs.YtpkkajglbklboaaDoor
open Go.ChangeShapes Go.WideShapes Go.ChangeAt Go.RowKit
set_option linter.unusedVariables false
set_option linter.unusedSimpArgs false

def KeyRel (l : List IP) (w : World) (ov iv : Value) (wr : World) : Prop := ∃ k : Nat, k ≤ l.length ∧ iv = .int .i64 k ∧ OW wr w.heap.size 3 eInt ov ((l.take k).map Prod.fst) ∧ Kp w wr
set_option maxRecDepth 100000 in
set_option maxHeartbeats 1000000 in
theorem spotKeys_any (l : List IP) (v : Value) (w : World) (hr : RD w ePair v l) (hn : l.length ≤ 8796093022207) : Calls Tryd.prog 23 #[v] w (RetOW 3 eInt (l.map Prod.fst) w) := by
  obtain ⟨A, c, rfl, hc, hm⟩ := hr.shape
  have HR := hide hr
  clear hr
  go_enter Tryd.func23, Tryd.ntmps23
  go_wp2
  go_loopw [3, 8] (KeyRel l w) (fun _ i _ => l.length - (intOf i).toNat)
  case atStart => exact ⟨0, by omega, rfl, OW.nil, Kp.refl _⟩
  case round =>
    obtain ⟨k, hk, rfl, ho, hkp⟩ := hrel
    have hi := ho.hi
    have HO := hide ho
    obtain ⟨u, hu⟩ : ∃ u, u = u3 := ⟨_, rfl⟩
    by_cases hlt : k < l.length
    · obtain ⟨b, o, rfl, _, x0, x1⟩ := (HR.out.kp hkp).pair hlt
      obtain ⟨y, hy⟩ : ∃ y, y = l[k].1 := ⟨_, rfl⟩
      rw [← hy] at x0
      have HN : Hid ((l.take k).map Prod.fst ++ [y] = (l.take (k + 1)).map Prod.fst) := hide (by rw [List.take_succ_eq_append_getElem hlt, List.map_append, hy]; rfl)
      have HM1 : Hid ((((l.take k).map Prod.fst).length + [y].length) * 8 ≤ 140737488355328) := hide (by simp; omega)
      have HM2 : Hid (((l.take k).map Prod.fst).length + [y].length ≤ maxLen) := hide (by simp [maxLen]; omega)
      clear hy ho hu
      go_wp2_with (at_builtin; (with_reducible refine list_app (B := w.heap.size) (l := (l.take k).map Prod.fst) (m := [y]) row_int u3 ?_ (.tmp 12) (.tmp 15) ?_ ?_ ?_ ?_ HM1.out HM2.out ?_ ?_); (with_reducible rfl); (with_reducible rfl); rfl; ((with_reducible apply OW.alloc); (with_reducible apply OW.alloc); exact HO.out); (show RD _ _ (.slice (some ⟨_, 0, none⟩) 1 1) _; (focus ((repeat (first | (with_reducible assumption) | exact RD.new1 _ rfl | (refine RD.new1e _ ?_ rfl; simp; done) | (with_reducible apply RD.alloc) | (with_reducible apply RD.drew) | (with_reducible apply RD.drewN) | ((with_reducible apply RD.belowR); (with_reducible assumption)))); done))); (have := hkp.size; simp; omega); intro v3 w3 ho3 hg3 hat3)
      go_roundw
      case rel => exact ⟨k + 1, by omega, by go_num, by rw [← HN.out]; exact ho3, Kp.app hg3 hkp.alloc.alloc hi⟩
      case measure => simp [intOf]; omega
    · have hkl : Hid ((l.take k).map Prod.fst = l.map Prod.fst) := hide (by rw [List.take_of_length_le (by omega)])
      clear ho hu
      go_wp2
      go_ret
      exact ⟨_, rfl, by rw [← hkl.out]; exact HO.out, hkp.bel⟩
end Go.Proofs.YtpkkajglbklboaaDoor
namespace Go.Proofs.YtpkkajglbklboaaDoor
open Go.ChangeShapes Go.WideShapes Go.ChangeAt Go.RowKit
set_option linter.unusedVariables false
set_option linter.unusedSimpArgs false

def MkRel (l : List IP) (w : World) (ov iv : Value) (wr : World) : Prop := ∃ k : Nat, k ≤ l.length ∧ iv = .int .i64 k ∧ OW wr w.heap.size 3 eInt ov ((l.take k).map Prod.fst) ∧ Kp w wr
set_option maxRecDepth 100000 in
set_option maxHeartbeats 1000000 in
theorem mapKeys_any (l : List IP) (v : Value) (w : World) (hr : RD w ePair v l) (hn : l.length ≤ 1000000) : Calls Tryd.prog 24 #[v] w (RetOW 3 eInt (l.map Prod.fst) w) := by
  obtain ⟨A, c, rfl, hc, hm⟩ := hr.shape
  have HR := hide hr
  clear hr
  go_enter Tryd.func24, Tryd.ntmps24
  go_wp2
  go_loopw [3, 8] (MkRel l w) (fun _ i _ => l.length - (intOf i).toNat)
  case atStart => exact ⟨0, by omega, rfl, OW.nil, Kp.refl _⟩
  case round =>
    obtain ⟨k, hk, rfl, ho, hkp⟩ := hrel
    have hi := ho.hi
    have HO := hide ho
    obtain ⟨u, hu⟩ : ∃ u, u = u3 := ⟨_, rfl⟩
    by_cases hlt : k < l.length
    · obtain ⟨b, o, rfl, _, x0, x1⟩ := (HR.out.kp hkp).pair hlt
      obtain ⟨y, hy⟩ : ∃ y, y = l[k].1 := ⟨_, rfl⟩
      rw [← hy] at x0
      have HN : Hid ((l.take k).map Prod.fst ++ [y] = (l.take (k + 1)).map Prod.fst) := hide (by rw [List.take_succ_eq_append_getElem hlt, List.map_append, hy]; rfl)
      have HM1 : Hid ((((l.take k).map Prod.fst).length + [y].length) * 8 ≤ 140737488355328) := hide (by simp; omega)
      have HM2 : Hid (((l.take k).map Prod.fst).length + [y].length ≤ maxLen) := hide (by simp [maxLen]; omega)
      clear hy ho hu
      go_wp2_with (at_builtin; (with_reducible refine list_app (B := w.heap.size) (l := (l.take k).map Prod.fst) (m := [y]) row_int u3 ?_ (.tmp 12) (.tmp 15) ?_ ?_ ?_ ?_ HM1.out HM2.out ?_ ?_); (with_reducible rfl); (with_reducible rfl); rfl; ((with_reducible apply OW.alloc); (with_reducible apply OW.alloc); exact HO.out); (show RD _ _ (.slice (some ⟨_, 0, none⟩) 1 1) _; (focus ((repeat (first | (with_reducible assumption) | exact RD.new1 _ rfl | (refine RD.new1e _ ?_ rfl; simp; done) | (with_reducible apply RD.alloc) | (with_reducible apply RD.drew) | (with_reducible apply RD.drewN) | ((with_reducible apply RD.belowR); (with_reducible assumption)))); done))); (have := hkp.size; simp; omega); intro v3 w3 ho3 hg3 hat3)
      go_roundw
      case rel => exact ⟨k + 1, by omega, by go_num, by rw [← HN.out]; exact ho3, Kp.app hg3 hkp.alloc.alloc hi⟩
      case measure => simp [intOf]; omega
    · have hkl : Hid ((l.take k).map Prod.fst = l.map Prod.fst) := hide (by rw [List.take_of_length_le (by omega)])
      clear ho hu
      go_wp2
      go_ret
      exact ⟨_, rfl, by rw [← hkl.out]; exact HO.out, hkp.bel⟩

end Go.Proofs.YtpkkajglbklboaaDoor
