/-
  Trees of the references that are only read (TR); hedgref.Spots: what it answers. Conditions: the tree is of fewer than 2^30 nodes with the depth.
  What a call leaves that writes one block of its caller's own (Kg). Conditions: none.
  Rows that lie apart: what an append to one leaves of another. Conditions: none.
  The lesser and the other keys of a list, and a loop that parts them. No program. Conditions: none.
  A list that tells each node ahead of what stands below it. No program. Conditions: none.
-/
import Derived.Test.YthbapflabjogkaaHeapOneM2
import Derived.Test.YthbapflabjogkaaHeapOneM3

namespace Go.Proofs.Ythbapflabjogkaa
open Go.ChangeShapes Go.WideShapes Go.ChangeAt Go.RowKit
set_option linter.unusedVariables false
set_option linter.unusedSimpArgs false

inductive T where
  | nil
  | node (k : Int) (l r : T)
def T.size : T → Nat
  | .nil => 0
  | .node _ l r => l.size + 1 + r.size
def T.spots : T → Int → List IP
  | .nil, _ => []
  | .node k l r, d => l.spots (d + 1) ++ [(k, d)] ++ r.spots (d + 1)
theorem T.spots_len : ∀ (t : T) (d : Int), (t.spots d).length = t.size
  | .nil, _ => rfl
  | .node k l r, d => by simp [T.spots, T.size, T.spots_len l, T.spots_len r]; omega

def TR (w : World) : T → Option Addr → Prop
  | .nil, p => p = none
  | .node k l r, p => ∃ b pl pr, p = some ⟨b, 0, none⟩ ∧ b < w.heap.size ∧ w.cell? ⟨b, 0, none⟩ = some (.int .i64 k) ∧ w.cell? ⟨b, 1, none⟩ = some (.pointer pl) ∧ w.cell? ⟨b, 2, none⟩ = some (.pointer pr) ∧ TR w l pl ∧ TR w r pr
theorem TR.keep {w w' : World} (hs : w.heap.size ≤ w'.heap.size) (hk : ∀ p : Addr, p.block < w.heap.size → w'.cell? p = w.cell? p) : ∀ {t : T} {v : Option Addr}, TR w t v → TR w' t v
  | .nil, _, h => h
  | .node _ _ _, _, ⟨b, pl, pr, h1, h2, h3, h4, h5, h6, h7⟩ => ⟨b, pl, pr, h1, by omega, (hk _ h2).trans h3, (hk _ h2).trans h4, (hk _ h2).trans h5, TR.keep hs hk h6, TR.keep hs hk h7⟩
theorem TR.kp {w w' : World} {t : T} {v : Option Addr} (h : TR w t v) (hb : Kp w w') : TR w' t v := TR.keep (Kp.size hb) (fun p hp => Below.cell (Kp.bel hb) hp) h
theorem TR.below {w w' : World} {t : T} {v : Option Addr} (h : TR w t v) (hb : Below w.heap.size w w') : TR w' t v := TR.keep hb.size (fun p hp => hb.cell hp) h

theorem TR.mk {w : World} {k : Int} {l r : T} {pl pr : Option Addr} (hl : TR w l pl) (hr : TR w r pr) (tt : TypeId) : TR (w.alloc (.cells #[.int .i64 k, .pointer pl, .pointer pr] tt)) (.node k l r) (some ⟨w.heap.size, 0, none⟩) := by
  have hk : Kp w (w.alloc (.cells #[.int .i64 k, .pointer pl, .pointer pr] tt)) := (Kp.refl w).alloc
  exact ⟨w.heap.size, pl, pr, rfl, by simp, cell_of_row _ _ 0 _ tt (0, 0) (heap_alloc_new w _), cell_of_row _ _ 1 _ tt (0, 0) (heap_alloc_new w _), cell_of_row _ _ 2 _ tt (0, 0) (heap_alloc_new w _), hl.kp hk, hr.kp hk⟩
def RetTR (t : T) (w : World) (e : Ending) (w' : World) : Prop := ∃ p, e = .returned (.pointer p) ∧ TR w' t p ∧ Below w.heap.size w w'

set_option maxRecDepth 100000 in
set_option maxHeartbeats 400000 in
theorem spots_any : ∀ (t : T) (v : Option Addr) (d : Int) (w : World), TR w t v → 0 ≤ d → d + t.size ≤ 1073741824 →
    Calls Try.prog 14 #[.pointer v, .int .i64 d] w (RetOW 51 ePair (t.spots d) w)
  | .nil, v, d, w, h, h0, h1 => by
    have h' : v = none := h
    subst h'
    go_enter Try.func14, Try.ntmps14
    go_wp2
    go_ret
    exact ⟨_, rfl, OW.nil, Below.refl _ _⟩
  | .node k l r, v, d, w, h, h0, h1 => by
    obtain ⟨b, pl, pr, rfl, hb, c0, c1, c2, hl, hr⟩ := h
    simp only [T.size] at h1
    have HI := hide (fun w h => spots_any l pl (d + 1) w h (by omega) (by omega))
    have HJ := hide (fun w h => spots_any r pr (d + 1) w h (by omega) (by omega))
    have HL := hide hl
    have HR := hide hr
    clear hl hr
    have HM1 : Hid (((l.spots (d + 1)).length + [(k, d)].length) * 16 ≤ 140737488355328) := hide (by rw [T.spots_len]; simp; omega)
    have HM2 : Hid ((l.spots (d + 1)).length + [(k, d)].length ≤ maxLen) := hide (by rw [T.spots_len]; simp [maxLen]; omega)
    have HM3 : Hid (((l.spots (d + 1) ++ [(k, d)]).length + (r.spots (d + 1)).length) * 16 ≤ 140737488355328) := hide (by rw [List.length_append, T.spots_len, T.spots_len]; simp; omega)
    have HM4 : Hid ((l.spots (d + 1) ++ [(k, d)]).length + (r.spots (d + 1)).length ≤ maxLen) := hide (by rw [List.length_append, T.spots_len, T.spots_len]; simp [maxLen]; omega)
    have KS : Hid (∀ W', Kp w W' → (W'.cell? ⟨b, 0, none⟩ = some (.int .i64 k) ∧ W'.cell? ⟨b, 1, none⟩ = some (.pointer pl) ∧ W'.cell? ⟨b, 2, none⟩ = some (.pointer pr) ∧ Kp w W')) :=
      hide fun W' h => ⟨h.cell c0, h.cell c1, h.cell c2, h⟩
    have K0 := Kp.refl w
    have K1 := K0.drew
    have hw : IntKind.i64.wrap (d + 1) = d + 1 := IntWalk.i64_in _ (by omega)
    clear h0 h1
    go_enter Try.func14, Try.ntmps14
    go_wp2_with fail
    go_region_held3 (fun w' => w'.cell? ⟨b, 0, none⟩ = some (.int .i64 k) ∧ w'.cell? ⟨b, 1, none⟩ = some (.pointer pl) ∧ w'.cell? ⟨b, 2, none⟩ = some (.pointer pr) ∧ Kp w w')
      ((go_split_ands
        refine KS.out _ ?_
        (focus ((repeat (first | (with_reducible assumption) | (with_reducible exact Kp.refl _) | (with_reducible apply Kp.drew) | (with_reducible apply Kp.drewN) | ((with_reducible apply Kp.setR); (focus (first | (with_reducible assumption) | (simp; done) | (simp; omega)))) | (with_reducible apply Kp.alloc) | ((with_reducible apply Kp.call); (with_reducible assumption)) | ((with_reducible apply Kp.app); (with_reducible assumption)))); done))))
      (first
        | (go_at_call_of 14 (Value.pointer pl); refine (HI.out _ (HL.out.below (Kp.bel ?_))).mono ?_; (go_split_ands; (focus ((repeat (first | (with_reducible assumption) | (with_reducible exact Kp.refl _) | (with_reducible apply Kp.drew) | (with_reducible apply Kp.drewN) | ((with_reducible apply Kp.setR); (focus (first | (with_reducible assumption) | (simp; done) | (simp; omega)))) | (with_reducible apply Kp.alloc) | ((with_reducible apply Kp.call); (with_reducible assumption)) | ((with_reducible apply Kp.app); (with_reducible assumption)))); done))); rintro e w1 ⟨v1, rfl, ho1', hb1⟩; have ho1 := OW.more ho1' (Kp.size (w := w) (by go_split_ands; (focus ((repeat (first | (with_reducible assumption) | (with_reducible exact Kp.refl _) | (with_reducible apply Kp.drew) | (with_reducible apply Kp.drewN) | ((with_reducible apply Kp.setR); (focus (first | (with_reducible assumption) | (simp; done) | (simp; omega)))) | (with_reducible apply Kp.alloc) | ((with_reducible apply Kp.call); (with_reducible assumption)) | ((with_reducible apply Kp.app); (with_reducible assumption)))); done)))); have lo1 := ho1.lo; have hi1 := ho1.hi; clear ho1')
        | (go_at_call_of 14 (Value.pointer pr); refine (HJ.out _ (HR.out.below (Kp.bel ?_))).mono ?_; (go_split_ands; (focus ((repeat (first | (with_reducible assumption) | (with_reducible exact Kp.refl _) | (with_reducible apply Kp.drew) | (with_reducible apply Kp.drewN) | ((with_reducible apply Kp.setR); (focus (first | (with_reducible assumption) | (simp; done) | (simp; omega)))) | (with_reducible apply Kp.alloc) | ((with_reducible apply Kp.call); (with_reducible assumption)) | ((with_reducible apply Kp.app); (with_reducible assumption)))); done))); rintro e w2 ⟨v2, rfl, ho2', hb2⟩; have ho2 := OW.more ho2' (Kp.size (w := w) (by go_split_ands; (focus ((repeat (first | (with_reducible assumption) | (with_reducible exact Kp.refl _) | (with_reducible apply Kp.drew) | (with_reducible apply Kp.drewN) | ((with_reducible apply Kp.setR); (focus (first | (with_reducible assumption) | (simp; done) | (simp; omega)))) | (with_reducible apply Kp.alloc) | ((with_reducible apply Kp.call); (with_reducible assumption)) | ((with_reducible apply Kp.app); (with_reducible assumption)))); done)))); try have hap := lo1.apart (Hi.mono ho2'.hi (by simp)); clear ho2')
        | ((with_reducible refine step_app (l := l.spots (d + 1)) (m := [(k, d)]) row_spot v1 ?_ (.tmp 13) (.tmp 20) ?_ ?_ ?_ ?_ HM1.out HM2.out (Kp.size (w := w) ?_) ?_); (with_reducible rfl); (with_reducible rfl); rfl; (focus ((repeat (first | (with_reducible assumption) | (with_reducible apply OW.alloc) | (with_reducible apply OW.drew) | (with_reducible apply OW.drewN) | ((with_reducible apply OW.setCellR); (with_reducible assumption)) | ((with_reducible apply OW.belowR); (with_reducible assumption)) | ((with_reducible apply OW.keptR); (with_reducible assumption); (with_reducible assumption)))); done)); (show RD _ _ (.slice (some ⟨_, 0, none⟩) 1 1) _; (focus ((repeat (first | (with_reducible assumption) | exact RD.new1 _ rfl | (refine RD.new1e _ ?_ rfl; simp; done) | (with_reducible apply RD.alloc) | (with_reducible apply RD.drew) | (with_reducible apply RD.drewN) | ((with_reducible apply RD.belowR); (with_reducible assumption)))); done))); (go_split_ands; (focus ((repeat (first | (with_reducible assumption) | (with_reducible exact Kp.refl _) | (with_reducible apply Kp.drew) | (with_reducible apply Kp.drewN) | ((with_reducible apply Kp.setR); (focus (first | (with_reducible assumption) | (simp; done) | (simp; omega)))) | (with_reducible apply Kp.alloc) | ((with_reducible apply Kp.call); (with_reducible assumption)) | ((with_reducible apply Kp.app); (with_reducible assumption)))); done))); intro v3 w3 ho3 hg3 hat3; have hi3 := ho3.hi)
        | ((with_reducible refine step_app (l := l.spots (d + 1) ++ [(k, d)]) (m := r.spots (d + 1)) row_spot v3 ?_ (.tmp 21) (.tmp 28) ?_ ?_ ?_ ?_ HM3.out HM4.out (Kp.size (w := w) ?_) ?_); (with_reducible rfl); (with_reducible rfl); rfl; (focus ((repeat (first | (with_reducible assumption) | (with_reducible apply OW.alloc) | (with_reducible apply OW.drew) | (with_reducible apply OW.drewN) | ((with_reducible apply OW.setCellR); (with_reducible assumption)) | ((with_reducible apply OW.belowR); (with_reducible assumption)) | ((with_reducible apply OW.keptR); (with_reducible assumption); (with_reducible assumption)))); done)); (show RD _ _ v2 _; refine OW.rd (B := w.heap.size) (e := 51) ?_; (focus ((repeat (first | (with_reducible assumption) | (with_reducible apply OW.alloc) | (with_reducible apply OW.drew) | (with_reducible apply OW.drewN) | ((with_reducible apply OW.setCellR); (with_reducible assumption)) | ((with_reducible apply OW.belowR); (with_reducible assumption)) | ((with_reducible apply OW.keptR); (with_reducible assumption); (with_reducible assumption)))); done))); (go_split_ands; (focus ((repeat (first | (with_reducible assumption) | (with_reducible exact Kp.refl _) | (with_reducible apply Kp.drew) | (with_reducible apply Kp.drewN) | ((with_reducible apply Kp.setR); (focus (first | (with_reducible assumption) | (simp; done) | (simp; omega)))) | (with_reducible apply Kp.alloc) | ((with_reducible apply Kp.call); (with_reducible assumption)) | ((with_reducible apply Kp.app); (with_reducible assumption)))); done))); intro v4 w4 ho4 hg4 hat4))
    all_goals
      go_wp2
      go_ret
      exact ⟨_, rfl, ho4, Kp.bel (by (focus ((repeat (first | (with_reducible assumption) | (with_reducible exact Kp.refl _) | (with_reducible apply Kp.drew) | (with_reducible apply Kp.drewN) | ((with_reducible apply Kp.setR); (focus (first | (with_reducible assumption) | (simp; done) | (simp; omega)))) | (with_reducible apply Kp.alloc) | ((with_reducible apply Kp.call); (with_reducible assumption)) | ((with_reducible apply Kp.app); (with_reducible assumption)))); done)))⟩
end Go.Proofs.Ythbapflabjogkaa
namespace Go.Proofs.Ythbapflabjogkaa
open Go.ChangeShapes Go.WideShapes Go.ChangeAt Go.RowKit
set_option linter.unusedVariables false
set_option linter.unusedSimpArgs false

/-! The block g may be written, all else stands. -/
def Kg (g : Nat) (w w' : World) : Prop := w.grownBy w' (some g)
theorem Kg.refl (g : Nat) (w : World) : Kg g w w := ⟨rfl, rfl, rfl, Nat.le_refl _, fun _ _ _ => rfl⟩
theorem Kg.size {g : Nat} {w w' : World} (h : Kg g w w') : w.heap.size ≤ w'.heap.size := World.grownBy.size h
theorem Kg.trans {g : Nat} {a b c : World} (h : Kg g a b) (k : Kg g b c) : Kg g a c := by
  obtain ⟨h1, h2, h3, h4, h5⟩ := h
  obtain ⟨k1, k2, k3, k4, k5⟩ := k
  exact ⟨k1.trans h1, k2.trans h2, k3.trans h3, Nat.le_trans h4 k4, fun i hi hn => (k5 i (Nat.lt_of_lt_of_le hi h4) hn).trans (h5 i hi hn)⟩
theorem Kg.of {g : Nat} {w w' : World} (h : Kp w w') : Kg g w w' := by
  obtain ⟨h1, h2, h3, h4, h5⟩ := h
  exact ⟨h1, h2, h3, h4, fun i hi _ => h5 i hi⟩
theorem Kg.drewN {g n : Nat} {w w' : World} (h : Kg g w w') : Kg g w (w'.drewN n) := h.trans (Kg.of (Kp.refl w').drewN)
theorem Kg.alloc {g : Nat} {w w' : World} {o : Obj} (h : Kg g w w') : Kg g w (w'.alloc o) := h.trans (Kg.of (Kp.refl w').alloc)
theorem Kg.set1 {g k : Nat} {w : World} {x : Value} : Kg g w (w.setCell ⟨g, k, none⟩ x) :=
  ⟨rfl, rfl, rfl, by simp [World.setCell], fun i hi hn => Below.heap_setCell _ _ _ _ (by rintro rfl; exact hn rfl)⟩
theorem Kg.set {g k : Nat} {w w' : World} {x : Value} (h : Kg g w w') : Kg g w (w'.setCell ⟨g, k, none⟩ x) := h.trans Kg.set1
theorem Kg.kp {g : Nat} {w0 w w' : World} (h : Kg g w w') (h0 : Kp w0 w) (hg : w0.heap.size ≤ g) : Kp w0 w' := Below.grown h0 h h0.size (fun k hk => by injection hk with hk; omega)
theorem Kg.block {g : Nat} {w w' : World} (h : Kg g w w') {i : Nat} (hi : i < w.heap.size) (hn : i ≠ g) : w'.heap[i]? = w.heap[i]? := World.grownBy.block h i hi (fun e => hn (by injection e))
theorem RD.kg {α : Type} {g : Nat} {w w' : World} {E : Enc α} {v : Value} {l : List α} (h : RD w E v l) (hv : 0 < l.length → v.ownBlock ≠ some g) (hk : Kg g w w') : RD w' E v l := by
  obtain ⟨A, c, rfl, h1, h2, hn, h3⟩ := h
  refine ⟨A, c, rfl, h1, h2, hn, fun h0 => ?_⟩
  obtain ⟨b, o, rfl, hb, hc⟩ := h3 h0
  refine ⟨b, o, rfl, Nat.lt_of_lt_of_le hb hk.size, fun k hk' j hj => ?_⟩
  rw [← hc k hk' j hj]
  have hbg : b ≠ g := fun e => hv h0 (by rw [e]; rfl)
  have := hk.block hb hbg
  exact World.cell?_of_block this
theorem AR.kg {α : Type} {g i : Nat} {w w' : World} {E : Enc α} {e : TypeId} {l : List α} (h : AR w i e E l) (hi : i ≠ g) (hk : Kg g w w') : AR w' i e E l := (hk.block h.lt hi).trans h

end Go.Proofs.Ythbapflabjogkaa
namespace Go.Proofs.Ythbapflabjogkaa
open Go.ChangeShapes Go.WideShapes Go.ChangeAt Go.RowKit
set_option linter.unusedVariables false
set_option linter.unusedSimpArgs false

def Ap (n : Nat) (u v : Value) : Prop := 0 < n → u.ownBlock = none ∨ u.ownBlock ≠ v.ownBlock
theorem RD.app {α : Type} {E : Enc α} {w w' : World} {v u : Value} {l : List α} (h : RD w E v l) (hg : w.grownBy w' u.ownBlock) (ha : Ap l.length v u) : RD w' E v l := by
  cases l with
  | nil =>
    obtain ⟨A, c, rfl, h1, h2, hn, h3⟩ := h
    exact ⟨A, c, rfl, h1, h2, hn, fun h => by simp at h⟩
  | cons a t =>
    have h4 := ha (by simp)
    obtain ⟨A, c, rfl, h1, h2, hn, h3⟩ := h
    obtain ⟨b, o, rfl, hb, hc⟩ := h3 (by simp)
    refine RD.grownR hg ?_ ⟨_, c, rfl, h1, h2, hn, h3⟩
    rcases h4 with h4 | h4
    · simp [Value.ownBlock] at h4
    · exact h4
theorem Ap.next {n : Nat} {w : World} {v u u' : Value} (h : Ap n v u) (hu : u'.ownBlock = u.ownBlock ∨ u'.ownBlock = some w.heap.size) (hv : 0 < n → Lo w.heap.size v) : Ap n v u' := fun h0 => by
  rcases hu with hu | hu
  · rw [hu]; exact h h0
  · rw [hu]
    cases hb : v.ownBlock with
    | none => exact .inl rfl
    | some k =>
      refine .inr fun e => ?_
      injection e with e
      have := hv h0 k hb
      omega

/-- Rows that lie apart. -/
def Dis (u v : Value) : Prop := ∀ k, u.ownBlock = some k → v.ownBlock ≠ some k
theorem Dis.symm {u v : Value} (h : Dis u v) : Dis v u := fun k h1 h2 => h k h2 h1
theorem Dis.or {u v : Value} (h : Dis u v) : u.ownBlock = none ∨ u.ownBlock ≠ v.ownBlock := by
  cases hu : u.ownBlock with
  | none => exact .inl rfl
  | some k => exact .inr fun e => h k hu e.symm
theorem Dis.next {u u' v : Value} {n : Nat} (h : Dis u v) (hu : u'.ownBlock = u.ownBlock ∨ u'.ownBlock = some n) (hv : Lo n v) : Dis u' v := fun k h1 h2 => by
  rcases hu with e | e
  · exact h k (by rw [← e]; exact h1) h2
  · rw [e] at h1
    injection h1 with h1
    have := hv k h2
    omega
end Go.Proofs.Ythbapflabjogkaa
namespace Go.Proofs.Ythbapflabjogkaa
open Go.ChangeShapes Go.WideShapes Go.ChangeAt Go.RowKit
set_option linter.unusedVariables false
set_option linter.unusedSimpArgs false

def lessL (x : Int) (l : List Int) : List Int := l.filter fun k => decide (k < x)
def moreL (x : Int) (l : List Int) : List Int := l.filter fun k => !decide (k < x)
theorem lessL_len (x : Int) (l : List Int) : (lessL x l).length ≤ l.length := List.length_filter_le _ _
theorem moreL_len (x : Int) (l : List Int) : (moreL x l).length ≤ l.length := List.length_filter_le _ _
theorem parts_len (x : Int) : ∀ l : List Int, (lessL x l).length + (moreL x l).length = l.length
  | [] => rfl
  | y :: t => by
    have := parts_len x t
    unfold lessL moreL at this ⊢
    by_cases h : y < x <;> simp [List.filter_cons, h] <;> omega
theorem lessL_snoc (x : Int) (l : List Int) (k : Nat) (h : k < l.length) : lessL x (l.take (k + 1)) = lessL x (l.take k) ++ if l[k] < x then [l[k]] else [] := by
  rw [List.take_succ_eq_append_getElem h, lessL, lessL, List.filter_append]
  congr 1
  by_cases hd : l[k] < x <;> simp [hd]
theorem moreL_snoc (x : Int) (l : List Int) (k : Nat) (h : k < l.length) : moreL x (l.take (k + 1)) = moreL x (l.take k) ++ if l[k] < x then [] else [l[k]] := by
  rw [List.take_succ_eq_append_getElem h, moreL, moreL, List.filter_append]
  congr 1
  by_cases hd : l[k] < x <;> simp [hd]
def SoRel (x : Int) (t : List Int) (w : World) (lv mv iv : Value) (wr : World) : Prop :=
  ∃ k : Nat, k ≤ t.length ∧ iv = .int .i64 k ∧ OW wr w.heap.size 3 eInt lv (lessL x (t.take k)) ∧ OW wr w.heap.size 3 eInt mv (moreL x (t.take k)) ∧ Dis lv mv ∧ Kp w wr
end Go.Proofs.Ythbapflabjogkaa
namespace Go.Proofs.Ythbapflabjogkaa
open Go.ChangeShapes Go.WideShapes Go.ChangeAt Go.RowKit
set_option linter.unusedVariables false
set_option linter.unusedSimpArgs false

def keysT : T → List Int
  | .nil => []
  | .node k l r => keysT l ++ [k] ++ keysT r
theorem keysT_spots : ∀ (t : T) (d : Int), (t.spots d).map Prod.fst = keysT t
  | .nil, _ => rfl
  | .node k l r, d => by simp [T.spots, keysT, keysT_spots l, keysT_spots r]
theorem keysT_len : ∀ t : T, (keysT t).length = t.size
  | .nil => rfl
  | .node k l r => by simp [keysT, T.size, keysT_len l, keysT_len r]; omega
/-- The keys stand in order. -/
def Bst (t : T) : Prop := (keysT t).Pairwise (fun a b => a < b)
theorem Bst.parts {k : Int} {l r : T} (h : Bst (.node k l r)) : Bst l ∧ Bst r ∧ (∀ y ∈ keysT l, y < k) ∧ (∀ y ∈ keysT r, k < y) := by
  unfold Bst at h
  rw [keysT, List.pairwise_append, List.pairwise_append] at h
  obtain ⟨⟨h1, _, h3⟩, h4, h5⟩ := h
  exact ⟨h1, h4, fun y hy => h3 y hy k (by simp), fun y hy => h5 k (by simp) y hy⟩
/-- Each node ahead of what stands below it. -/
def Topo : T → List Int → Prop
  | .nil, F => F = []
  | .node k l r, F => ∃ F', F = k :: F' ∧ (∀ y ∈ F', y ≠ k) ∧ Topo l (lessL k F') ∧ Topo r (moreL k F')
theorem lessL_app (x : Int) (a b : List Int) : lessL x (a ++ b) = lessL x a ++ lessL x b := List.filter_append ..
theorem moreL_app (x : Int) (a b : List Int) : moreL x (a ++ b) = moreL x a ++ moreL x b := List.filter_append ..
theorem lessL_all {x : Int} {a : List Int} (h : ∀ y ∈ a, y < x) : lessL x a = a ∧ moreL x a = [] :=
  ⟨List.filter_eq_self.2 fun y hy => by simpa using h y hy, List.filter_eq_nil_iff.2 fun y hy => by have := h y hy; simp; omega⟩
theorem moreL_all {x : Int} {a : List Int} (h : ∀ y ∈ a, x < y) : lessL x a = [] ∧ moreL x a = a :=
  ⟨List.filter_eq_nil_iff.2 fun y hy => by have := h y hy; simp; omega, List.filter_eq_self.2 fun y hy => by have := h y hy; simp; omega⟩
end Go.Proofs.Ythbapflabjogkaa
