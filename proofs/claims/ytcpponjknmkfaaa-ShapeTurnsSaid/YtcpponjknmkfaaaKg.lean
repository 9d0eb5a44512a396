/-
  What a call leaves that writes one block of its caller's own (Kg). Conditions: none.
-/
import Derived.Test.YtcpponjknmkfaaaArr
namespace Go.Proofs.Ytcpponjknmkfaaa
open Go.ChangeShapes Go.WideShapes Go.ChangeAt Go.RowKit
set_option linter.unusedVariables false
set_option linter.unusedSimpArgs false

/-! The block g may be written, all else stands. -/
def Kg (g : Nat) (w w' : World) : Prop := w.grownBy w' (some g)
theorem Kg.refl (g : Nat) (w : World) : Kg g w w := ⟨rfl, rfl, rfl, Nat.le_refl _, fun _ _ _ => rfl⟩
theorem Kg.size {g : Nat} {w w' : World} (h : Kg g w w') : w.heap.size ≤ w'.heap.size := World.grownBy.size h
theorem Kg.trans {g : Nat} {a b c : World} (h : Kg g a b) (k : Kg g b c) : Kg g a c := by
  obtain ⟨h1, h2, h3, h4, h5⟩ := h
  obtain ⟨k1, k2, k3, k4, k5⟩ := k
  exact ⟨k1.trans h1, k2.trans h2, k3.trans h3, Nat.le_trans h4 k4, fun i hi hn => (k5 i (Nat.lt_of_lt_of_le hi h4) hn).trans (h5 i hi hn)⟩
theorem Kg.of {g : Nat} {w w' : World} (h : Kp w w') : Kg g w w' := by
  obtain ⟨h1, h2, h3, h4, h5⟩ := h
  exact ⟨h1, h2, h3, h4, fun i hi _ => h5 i hi⟩
theorem Kg.drewN {g n : Nat} {w w' : World} (h : Kg g w w') : Kg g w (w'.drewN n) := h.trans (Kg.of (Kp.refl w').drewN)
theorem Kg.alloc {g : Nat} {w w' : World} {o : Obj} (h : Kg g w w') : Kg g w (w'.alloc o) := h.trans (Kg.of (Kp.refl w').alloc)
theorem Kg.set1 {g k : Nat} {w : World} {x : Value} : Kg g w (w.setCell ⟨g, k, none⟩ x) :=
  ⟨rfl, rfl, rfl, by simp [World.setCell], fun i hi hn => Below.heap_setCell _ _ _ _ (by rintro rfl; exact hn rfl)⟩
theorem Kg.set {g k : Nat} {w w' : World} {x : Value} (h : Kg g w w') : Kg g w (w'.setCell ⟨g, k, none⟩ x) := h.trans Kg.set1
theorem Kg.kp {g : Nat} {w0 w w' : World} (h : Kg g w w') (h0 : Kp w0 w) (hg : w0.heap.size ≤ g) : Kp w0 w' := Below.grown h0 h h0.size (fun k hk => by injection hk with hk; omega)
theorem Kg.block {g : Nat} {w w' : World} (h : Kg g w w') {i : Nat} (hi : i < w.heap.size) (hn : i ≠ g) : w'.heap[i]? = w.heap[i]? := World.grownBy.block h i hi (fun e => hn (by injection e))
theorem RD.kg {α : Type} {g : Nat} {w w' : World} {E : Enc α} {v : Value} {l : List α} (h : RD w E v l) (hv : 0 < l.length → v.ownBlock ≠ some g) (hk : Kg g w w') : RD w' E v l := by
  obtain ⟨A, c, rfl, h1, h2, hn, h3⟩ := h
  refine ⟨A, c, rfl, h1, h2, hn, fun h0 => ?_⟩
  obtain ⟨b, o, rfl, hb, hc⟩ := h3 h0
  refine ⟨b, o, rfl, Nat.lt_of_lt_of_le hb hk.size, fun k hk' j hj => ?_⟩
  rw [← hc k hk' j hj]
  have hbg : b ≠ g := fun e => hv h0 (by rw [e]; rfl)
  have := hk.block hb hbg
  exact World.cell?_of_block this
theorem AR.kg {α : Type} {g i : Nat} {w w' : World} {E : Enc α} {e : TypeId} {l : List α} (h : AR w i e E l) (hi : i ≠ g) (hk : Kg g w w') : AR w' i e E l := (hk.block h.lt hi).trans h

end Go.Proofs.Ytcpponjknmkfaaa
