/-
  A block that the call made and that holds just a list (AR): read, written; an owned slice cut at its end. Conditions: none.
-/
import Derived.Test.YtcpponjknmkfaaaOwn
import Derived.Laws.MakeOwn
namespace Go.Proofs.Ytcpponjknmkfaaa
open Go.ChangeShapes Go.WideShapes Go.ChangeAt Go.RowKit
set_option linter.unusedVariables false
set_option linter.unusedSimpArgs false

def AR {α : Type} (w : World) (g : Nat) (e : TypeId) (E : Enc α) (l : List α) : Prop := w.heap[g]? = some (.cells (l.flatMap E.cells).toArray e (0, 0))
section
variable {α : Type} {w w' : World} {g : Nat} {e : TypeId} {E : Enc α} {l : List α}
theorem AR.lt (h : AR w g e E l) : g < w.heap.size := (Array.getElem?_eq_some_iff.1 h).1
theorem AR.rd (h : AR w g e E l) (hm : l.length ≤ maxLen) : RD w E (.slice (some ⟨g, 0, none⟩) l.length l.length) l := RD.block l h (by simp) hm
theorem AR.ow (h : AR w g e E l) {B : Nat} (hB : B ≤ g) (hm : l.length ≤ maxLen) : OW w B e E (.slice (some ⟨g, 0, none⟩) l.length l.length) l :=
  ⟨flat_len E l, .inr ⟨g, _, _, rfl, hB, h, Nat.le_refl _, hm, by rw [List.size_toArray, flat_len], by rw [← flat_len E l, List.take_length]⟩⟩
theorem AR.below (h : AR w g e E l) (hb : Below w.heap.size w w') : AR w' g e E l := (hb.block g h.lt).trans h
theorem AR.belowR (hb : Below w.heap.size w w') (h : AR w g e E l) : AR w' g e E l := h.below hb
theorem AR.kp (h : AR w g e E l) (hb : Kp w w') : AR w' g e E l := h.below hb
theorem AR.alloc (h : AR w g e E l) {o : Obj} : AR (w.alloc o) g e E l := (Below.heap_alloc w o g h.lt).trans h
theorem AR.drew (h : AR w g e E l) : AR w.drew g e E l := h
theorem AR.drewN (h : AR w g e E l) {n : Nat} : AR (w.drewN n) g e E l := h
theorem AR.setCell (h : AR w g e E l) {p : Addr} (hp : g ≠ p.block) {u : Value} : AR (w.setCell p u) g e E l := (Below.heap_setCell w p u g hp).trans h
theorem AR.grown {v : Value} (hg : w.grownBy w' v.ownBlock) (hne : v.ownBlock ≠ some g) (h : AR w g e E l) : AR w' g e E l := (hg.block g h.lt (fun e => hne e.symm)).trans h
theorem AR.frozen (h : AR w g e E l) (i : Nat) : w.frozen? ⟨g, i, none⟩ = false := by
  unfold AR at h
  simp [World.frozen?, h]
theorem AR.cell (h : AR w g e E l) (k : Nat) (hk : k < l.length) (j : Nat) (hj : j < E.size) : w.cell? ⟨g, k * E.size + j, none⟩ = (E.cells l[k])[j]? := by
  rw [cell_of_row w g _ _ e (0, 0) h, ← flat_at E l k hk j hj]
  simp
end
theorem flat_int (l : List Int) : l.flatMap eInt.cells = l.map (Value.int .i64) := by
  induction l with
  | nil => rfl
  | cons a t ih => rw [List.flatMap_cons, ih]; rfl
section
variable {w : World} {g c : Nat} {e : TypeId} {l : List Int}
theorem AR.int (h : AR w g e eInt l) {k : Nat} (hk : k < l.length) : w.cell? ⟨g, k, none⟩ = some (.int .i64 l[k]) := by
  have := h.cell k hk 0 (by decide)
  simpa [eInt] using this
theorem AR.set (h : AR w g e eInt l) {k : Nat} (x : Int) : AR (w.setCell ⟨g, k, none⟩ (.int .i64 x)) g e eInt (l.set k x) := by
  unfold AR at h ⊢
  simp only [World.setCell, Array.getElem?_modify, h]
  simp [flat_int, List.map_set]
theorem flat_set_pair (x : IP) : ∀ (l : List IP) (k : Nat), ((l.flatMap ePair.cells).set (k * 2) (.int .i64 x.1)).set (k * 2 + 1) (.int .i64 x.2) = (l.set k x).flatMap ePair.cells
  | [], k => by simp
  | a :: t, 0 => by simp [List.flatMap_cons, ePair]
  | a :: t, k + 1 => by
    have ih := flat_set_pair x t k
    simp only [List.flatMap_cons, List.set_cons_succ]
    rw [← ih]
    simp only [ePair, List.cons_append, List.nil_append]
    rw [show (k + 1) * 2 = k * 2 + 1 + 1 from by omega]
    simp [List.set_cons_succ]
theorem AR.setPair {w : World} {g : Nat} {e : TypeId} {l : List IP} (h : AR w g e ePair l) {k : Nat} (x : IP) : AR ((w.setCell ⟨g, k * 2, none⟩ (.int .i64 x.1)).setCell ⟨g, k * 2 + 1, none⟩ (.int .i64 x.2)) g e ePair (l.set k x) := by
  unfold AR at h ⊢
  simp only [World.setCell, Array.getElem?_modify, h]
  rw [← flat_set_pair]
  simp
theorem OW.int (h : ∃ B, OW w B e eInt (.slice (some ⟨g, 0, none⟩) l.length c) l) {k : Nat} (hk : k < l.length) : w.cell? ⟨g, k, none⟩ = some (.int .i64 l[k]) := by
  obtain ⟨B, h⟩ := h
  obtain ⟨b, o, e1, _, hc⟩ := h.rd.int hk
  injection e1 with e1
  injection e1 with e2 e3
  subst e2 e3
  simpa using hc
end
theorem OW.shape {α : Type} {w : World} {B : Nat} {e : TypeId} {E : Enc α} {v : Value} {l : List α} (h : OW w B e E v l) (h0 : 0 < l.length) : ∃ g c, v = .slice (some ⟨g, 0, none⟩) l.length c ∧ B ≤ g ∧ g < w.heap.size ∧ l.length ≤ c ∧ c ≤ 9223372036854775807 := by
  rcases h.2 with ⟨_, h1⟩ | ⟨g, cap, cur, hv, hb, hg, h1, h2, _⟩
  · omega
  · exact ⟨g, cap, hv, hb, (Array.getElem?_eq_some_iff.1 hg).1, h1, by unfold maxLen at h2; omega⟩
theorem OW.pop {α : Type} {w : World} {B : Nat} {e : TypeId} {E : Enc α} {g n c : Nat} {l : List α} {a : α} (h : OW w B e E (.slice (some ⟨g, 0, none⟩) n c) (l ++ [a])) : OW w B e E (.slice (some ⟨g, 0, none⟩) l.length c) l := by
  rcases h.2 with ⟨h1, _⟩ | ⟨g', cap, cur, hv, hb, hg, h1, h2, h3, h4⟩
  · cases h1
  · injection hv with e1 e2 e3
    injection e1 with e1
    injection e1 with e1 _
    subst e1 e3
    refine ⟨flat_len E l, .inr ⟨g, c, cur, rfl, hb, hg, by simp at h1; omega, h2, h3, ?_⟩⟩
    have := congrArg (List.take (l.length * E.size)) h4
    rw [List.take_take, List.flatMap_append, List.take_append_of_le_length (by rw [flat_len]; omega), ← flat_len E l, List.take_length, flat_len] at this
    rw [← this]
    congr 1
    simp [Nat.add_mul]

theorem madeCells_flat {α : Type} (E : Enc α) (a : α) (z : Array Value) (n : Nat) (hz : z.toList = E.cells a) (h0 : 0 < E.size) : madeCells z (n * E.size) = ((List.replicate n a).flatMap E.cells).toArray := by
  have hs : z.size = E.size := by rw [← Array.length_toList, hz, E.len]
  apply Array.ext
  · simp only [size_madeCells, List.size_toArray, flat_len, List.length_replicate]
  · intro j h1 h2
    simp only [size_madeCells] at h1
    obtain ⟨k, i, hk, hi, rfl⟩ := flat_inv E h0 (List.replicate n a) j (by simpa using h1)
    have h3 := flat_at E (List.replicate n a) k hk i hi
    have h4 : ((List.replicate n a).flatMap E.cells).toArray[k * E.size + i]? = (E.cells a)[i]? := by simpa using h3
    have h5 : (madeCells z (n * E.size))[k * E.size + i]? = (E.cells a)[i]? := by
      simp only [madeCells, Array.getElem?_map]
      rw [Array.getElem?_range, if_pos h1, ← hz]
      simp only [Option.map_some, hs]
      have e : (k * E.size + i) % E.size = i := by rw [Nat.mul_comm, Nat.mul_add_mod]; exact Nat.mod_eq_of_lt hi
      rw [e, getElem!_pos z i (by omega)]
      simp [Array.getElem?_eq_getElem (show i < z.size by omega)]
    rw [Array.getElem?_eq_getElem (by rw [size_madeCells]; exact h1)] at h5
    rw [Array.getElem?_eq_getElem h2] at h4
    exact Option.some.inj (h5.trans h4.symm)

/-- make([]T, n): the block is a letter C. -/
theorem run_mk {α : Type} {P : Program} {t e : TypeId} {E : Enc α} {bytes : Nat} (hrow : Row P t e E bytes) (a : α) (hz : ∀ i z, P.info? e = some i → i.zero = some z → z.cells.toList = E.cells a) (n : Nat)
    (hb : n * bytes ≤ 281474976710656) (h63 : n ≤ maxLen) :
    ∃ C : Array Value, Hid (C = ((List.replicate n a).flatMap E.cells).toArray) ∧ ∀ W : World, (Instr.makeSlice t (.int .i64 (n : Int)) (.int .i64 (n : Int))).run P W = .ok (.slice (some ⟨W.heap.size, 0, none⟩) n n) (W.alloc (.cells C e)) := by
  obtain ⟨i, z, ht, hi, h1, h2, h3, h4, h5⟩ := hrow
  refine ⟨_, rfl, fun W => ?_⟩
  have hbb : (i.bytes : Int) * (n : Int) ≤ 281474976710656 := by
    have h : ((n * bytes : Nat) : Int) ≤ 281474976710656 := by omega
    rw [Int.natCast_mul] at h
    rw [h3, Int.mul_comm]
    exact h
  have := run_make (P := P) W t e i z ht hi h1 .i64 .i64 n n (by omega) (Int.le_refl _) hbb (by unfold maxLen at h63; omega)
  rw [this, Int.toNat_natCast, h2, madeCells_flat E a z.cells n (hz i z hi h1) h5]
theorem AR.made {α : Type} {W : World} {C : Array Value} {e : TypeId} {E : Enc α} {n : Nat} {a : α} (h : Hid (C = ((List.replicate n a).flatMap E.cells).toArray)) : AR (W.alloc (.cells C e)) W.heap.size e E (List.replicate n a) := by
  unfold AR
  rw [← h.out]
  exact heap_alloc_new W _
theorem zero_of {α : Type} {P : Program} {e : TypeId} {E : Enc α} {z : Value} {n bytes : Nat} {a : α} (h : (P.info? e).map (fun i => (i.zero, i.size, i.bytes)) = some (some z, n, bytes)) (hz : z.cells.toList = E.cells a) :
    ∀ i z, P.info? e = some i → i.zero = some z → z.cells.toList = E.cells a := by
  intro i z' hi hz'
  rw [hi] at h
  simp only [Option.map_some, Option.some.injEq, Prod.mk.injEq] at h
  rw [hz'] at h
  injection h.1 with h1
  rw [h1, hz]
theorem zero_int : ∀ i z, Try.prog.info? 3 = some i → i.zero = some z → z.cells.toList = eInt.cells 0 := zero_of info_int rfl
theorem zero_spot : ∀ i z, Try.prog.info? 41 = some i → i.zero = some z → z.cells.toList = ePair.cells (0, 0) := zero_of info_spot rfl
def Ret2 {α : Type} (E : Enc α) (r : List α × Int) (w : World) (e : Ending) (w' : World) : Prop := ∃ v, e = .returned (.tuple #[v, .int .i64 r.2]) ∧ RD w' E v r.1 ∧ Below w.heap.size w w'
def gv (l : List IP) (k : Nat) : Int := (l.getD k (0, 0)).2
theorem gv_eq (l : List IP) (k : Nat) (h : k < l.length) : gv l k = l[k].2 := by simp [gv, List.getD_eq_getElem?_getD, List.getElem?_eq_getElem h]
def sliceLen : Value → Nat | .slice _ n _ => n | _ => 0

def RetAR {α : Type} (e : TypeId) (E : Enc α) (l : List α) (w : World) (en : Ending) (w' : World) : Prop :=
  ∃ g, en = .returned (.slice (some ⟨g, 0, none⟩) l.length l.length) ∧ w.heap.size ≤ g ∧ AR w' g e E l ∧ Below w.heap.size w w'

def Drew (v : Value) (w : World) (e : Ending) (w' : World) : Prop := e = .returned v ∧ ∃ n, w' = w.drewN n

/-- The first k are laid, the others still zero. -/
def part {α : Type} (res : List α) (z : α) (k : Nat) : List α := res.take k ++ List.replicate (res.length - k) z
theorem part_len {α : Type} (res : List α) (z : α) (k : Nat) (h : k ≤ res.length) : (part res z k).length = res.length := by simp [part]; omega
theorem part_zero {α : Type} (res : List α) (z : α) : part res z 0 = List.replicate res.length z := by simp [part]
theorem part_at {α : Type} (res : List α) (z : α) (k a : Nat) (h : a < k) (hk : k ≤ res.length) : (part res z k)[a]'(by rw [part_len _ _ _ hk]; omega) = res[a] := by
  unfold part
  rw [List.getElem_append_left (by simp; omega)]
  simp
theorem part_end {α : Type} (res : List α) (z : α) : part res z res.length = res := by simp [part]
theorem part_set {α : Type} (res : List α) (z : α) (k : Nat) (h : k < res.length) : (part res z k).set k res[k] = part res z (k + 1) := by
  unfold part
  rw [List.set_append_right _ _ (by simp; omega)]
  rw [show res.length - k = (res.length - (k + 1)) + 1 from by omega, List.replicate_succ]
  rw [List.take_succ_eq_append_getElem h, List.append_assoc]
  simp [show min k res.length = k from by omega]

end Go.Proofs.Ytcpponjknmkfaaa
