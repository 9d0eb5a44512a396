/-
  copy, append within the capacity, clear, append of zeros: at slices of elements of several cells, in a block that is known whole; slices.overlaps of two blocks. Conditions: those of each law.
-/
import Derived.Test.YtcpponjknmkfaaaKg
import Derived.Laws.CopyOwn
import Derived.Lib.AppendZerosOnto
import Derived.Lib.Overlaps
import Derived.Lib.SliceRun
namespace Go.Proofs.Ytcpponjknmkfaaa
open Go.ChangeShapes Go.WideShapes Go.ChangeAt Go.RowKit
set_option linter.unusedVariables false
set_option linter.unusedSimpArgs false

/-- The block g is just these cells. -/
def BK (w : World) (g : Nat) (t : TypeId) (cur : List Value) : Prop := w.heap[g]? = some (.cells cur.toArray t (0, 0))
section
variable {P : Program} {w w' : World} {g : Nat} {t : TypeId} {cur cs : List Value}
theorem BK.lt (h : BK w g t cur) : g < w.heap.size := (Array.getElem?_eq_some_iff.1 h).1
theorem BK.kp (h : BK w g t cur) (hk : Kp w w') : BK w' g t cur := (hk.bel.block g h.lt).trans h
theorem BK.kg {b : Nat} (h : BK w g t cur) (hn : g ≠ b) (hk : Kg b w w') : BK w' g t cur := (hk.block h.lt hn).trans h
theorem BK.cell (h : BK w g t cur) (j : Nat) : w.cell? ⟨g, j, none⟩ = cur[j]? := by
  rw [cell_of_row w g j _ t (0, 0) h]; simp
theorem Kg.setRow (w : World) (g : Nat) (cs : Array Value) : Kg g w (w.setRow g cs) := ⟨rfl, rfl, rfl, by simp, fun k hk hn => setRow_other w g k cs (fun e => hn (by rw [e]))⟩
theorem BK.setRow (h : BK w g t cur) (cs : List Value) : BK (w.setRow g cs.toArray) g t cs := setRow_heap w g _ _ t _ h
theorem BK.of_ow {α : Type} {B : Nat} {E : Enc α} {e : TypeId} {n c : Nat} {l : List α} (h : OW w B e E (.slice (some ⟨g, 0, none⟩) n c) l) : ∃ cur : List Value, BK w g e cur ∧ B ≤ g ∧ n ≤ c ∧ c ≤ maxLen ∧ cur.length = c * E.size ∧ cur.take (n * E.size) = l.flatMap E.cells ∧ n = l.length := by
  obtain ⟨h1, h2⟩ := h
  have hn : n = l.length := by
    rcases h2 with ⟨h2, _⟩ | ⟨g', cap, cur, hv, _⟩
    · cases h2
    · injection hv
  rcases h2 with ⟨h2, _⟩ | ⟨g', cap, cur, hv, hb, hg, h3, h4, h5, h6⟩
  · cases h2
  · injection hv with e1 e2 e3
    injection e1 with e1
    injection e1 with e1 _
    subst e1 e3
    refine ⟨cur.toList, ?_, hb, by omega, h4, by simpa using h5, by rw [hn]; simpa using h6, hn⟩
    unfold BK
    simpa using hg
theorem BK.ow {α : Type} {B : Nat} {E : Enc α} {e : TypeId} {c : Nat} {l : List α} (h : BK w g e cur) (hB : B ≤ g) (hn : l.length ≤ c) (hc : c ≤ maxLen) (hl : cur.length = c * E.size) (ht : cur.take (l.length * E.size) = l.flatMap E.cells) :
    OW w B e E (.slice (some ⟨g, 0, none⟩) l.length c) l :=
  ⟨flat_len E l, .inr ⟨g, c, cur.toArray, rfl, hB, h, hn, hc, by simpa using hl, by simpa using ht⟩⟩

theorem splice_len (L : List Value) (off : Nat) (cs : List Value) (h : off + cs.length ≤ L.length) : (splice L off cs).length = L.length := length_splice L off cs h
theorem splice_at {α : Type} (L : List α) (off : Nat) (cs : List α) (h : off + cs.length ≤ L.length) (j : Nat) : (splice L off cs)[j]? = if j < off then L[j]? else if j < off + cs.length then cs[j - off]? else L[j]? := by
  unfold splice
  by_cases h1 : j < off
  · rw [if_pos h1, List.getElem?_append_left (by simp; omega), List.getElem?_take, if_pos h1]
  · rw [if_neg h1, List.getElem?_append_right (by simp; omega)]
    have e : (L.take off).length = off := by simp; omega
    rw [e]
    by_cases h2 : j < off + cs.length
    · rw [if_pos h2, List.getElem?_append_left (by omega)]
    · rw [if_neg h2, List.getElem?_append_right (by omega), List.getElem?_drop]
      congr 1; omega

theorem run_storeRow (hg : BK w g t cur) (o : Nat) (hfit : o + cs.length ≤ cur.length) (h1 : ∀ v ∈ cs, v.oneCell' = true) : (storeCells ⟨g, o, none⟩ cs).run P w = .ok () (w.setRow g (splice cur o cs).toArray) := by
  have h := run_storeCells_at P g o t cs 0 cur.toArray w hg (by simpa using hfit) h1
  rw [h]
  simp [splice]
theorem add_lit (b o j : Nat) : (⟨b, o, none⟩ : Addr).add j = ⟨b, o + j, none⟩ := by unfold Addr.add; split <;> simp_all
theorem run_copyK {dT sT ty elem : TypeId} {i0 : TypeInfo} (hi : P.info? elem = some i0) (hu : P.underlying dT = some (.slice elem)) (o dLen dCap : Nat) (a : Addr) (sLen sCap : Nat) (hg : BK w g t cur)
    (hn : cs.length = Nat.min sLen dLen * i0.size) (hsrc : ∀ j v, cs[j]? = some v → w.cell? (a.add j) = some v) (hfit : o + cs.length ≤ cur.length) (h1 : ∀ v ∈ cs, v.oneCell' = true) :
    (Builtin.copy_ #[dT, sT] ty #[.slice (some ⟨g, o, none⟩) dLen dCap, .slice (some a) sLen sCap]).run P w = .ok (goInt (Nat.min sLen dLen)) (w.setRow g (splice cur o cs).toArray) := by
  have hf := run_firstCells_some (P := P) w i0.size (Nat.min sLen dLen) a sLen sCap cs hn hsrc
  have hst := run_storeRow (P := P) hg o hfit h1
  simp [Builtin.copy_, run_underlying hu, Builtin.lenOf, sizeOf, typeInfo, hi, hf, hst]
theorem run_appendK {tt tx ty elem : TypeId} {i0 : TypeInfo} (hi : P.info? elem = some i0) (hu : P.underlying tt = some (.slice elem)) (hx : P.underlying tx = some (.slice elem)) (n c : Nat) (a : Addr) (m sCap : Nat) (hg : BK w g t cur)
    (hn : cs.length = m * i0.size) (hroom : n + m ≤ c) (hsrc : ∀ j v, cs[j]? = some v → w.cell? (a.add j) = some v) (hfit : n * i0.size + cs.length ≤ cur.length) (h1 : ∀ v ∈ cs, v.oneCell' = true) :
    (Builtin.append_ #[tt, tx] ty #[.slice (some ⟨g, 0, none⟩) n c, .slice (some a) m sCap]).run P w = .ok (.slice (some ⟨g, 0, none⟩) (n + m) c) (w.setRow g (splice cur (n * i0.size) cs).toArray) := by
  have hs : Src P i0.size tx (.slice (some a) m sCap) m cs w := Src.ofSlice w hx a m sCap cs hn hsrc h1
  have h := run_append_room_src (P := P) w tt tx ty elem i0 hu hi g 0 n c (.slice (some a) m sCap) m cs hs hroom (fun j hj => by
    rw [Nat.zero_add, hg.cell, List.getElem?_eq_getElem (by omega)]; rfl) (fun j hj => by
    unfold BK at hg
    simp [World.frozen?, hg])
  rw [h]
  have h2 := run_storeRow (P := P) hg (n * i0.size) hfit h1
  have h3 := run_storeCells_cells (P := P) g (n * i0.size) cs 0 w (fun j hj => by rw [Nat.add_zero, hg.cell, List.getElem?_eq_getElem (by omega)]; rfl) (fun j hj => by
    unfold BK at hg
    simp [World.frozen?, hg]) h1
  rw [h2] at h3
  injection h3 with _ h3
  rw [h3]
  simp
theorem run_clearK {tt ty elem : TypeId} {i0 : TypeInfo} {z : Value} (hi : P.info? elem = some i0) (hz : i0.zero = some z) (hu : P.underlying tt = some (.slice elem)) (o n c : Nat) (hn : 0 < n) (hg : BK w g t cur)
    (hzs : z.cells.size = i0.size) (hfit : o + n * i0.size ≤ cur.length) (h1 : ∀ v ∈ (Builtin.zeroCells z.cells n).toList, v.oneCell' = true) :
    (Builtin.clear_ #[tt] ty #[.slice (some ⟨g, o, none⟩) n c]).run P w = .ok (.tuple #[]) (w.setRow g (splice cur o (Builtin.zeroCells z.cells n).toList).toArray) := by
  have hl : (Builtin.zeroCells z.cells n).toList.length = n * i0.size := by rw [Array.length_toList, size_zeroCells, hzs]
  have hst := run_storeRow (P := P) hg o (cs := (Builtin.zeroCells z.cells n).toList) (by rw [hl]; exact hfit) h1
  cases n with
  | zero => omega
  | succ n => simp [Builtin.clear_, run_underlying hu, zeroValue, typeInfo, hi, hz, hst]
end
section
variable {P : Program} {w : World} {ops : Array Oper} {rest : List Oper} {o : Oper} {a : Act} {Q : Exit → Act → World → Prop} {K : Act → World → Prop} {F : Prop}
/-- A copy whose run is known, at a plain region and at a step of one that draws: the world behind it is a letter. -/
theorem list_copy (hgd : o.guard = none) (d x : Operand) {dT sT : TypeId} (ho : o.op = .call { callee := .builtin .copy, args := #[d, x], argTypes := #[dT, sT] }) (v u : Value) (hd : a.eval d = v) (hx : a.eval x = u) {n : Nat} {g : Nat} {t : TypeId} {cur : List Value}
    (hg : BK w g t cur) {cs' : List Value} (hr : ∀ ty, (Builtin.copy_ #[dT, sT] ty #[v, u]).run P w = .ok (goInt n) (w.setRow g cs'.toArray))
    (h : ∀ w', Hid (BK w' g t cs') → Kg g w w' → wpList P ops Q rest (a.put o.dst (goInt n)) w') : wpList P ops Q (o :: rest) a w := by
  refine wpList_plain hgd fun K hK => ?_
  unfold Oper.wp execOp
  simp only [ho, resolve, invoke, builtin, Sem.run_bind, Sem.run_pure, Result.andThen_ok, List.map_toArray, List.map_cons, List.map_nil, hd, hx, hr]
  exact hK _ _ (h _ (hg.setRow cs') (Kg.setRow _ _ _))
theorem step_copy (hgd : o.guard = none) (d x : Operand) {dT sT : TypeId} (ho : o.op = .call { callee := .builtin .copy, args := #[d, x], argTypes := #[dT, sT] }) (v u : Value) (hd : a.eval d = v) (hx : a.eval x = u) {n : Nat} {g : Nat} {t : TypeId} {cur : List Value}
    (hg : BK w g t cur) {cs' : List Value} (hr : ∀ ty, (Builtin.copy_ #[dT, sT] ty #[v, u]).run P w = .ok (goInt n) (w.setRow g cs'.toArray))
    (h : ∀ w', Hid (BK w' g t cs') → Kg g w w' → K (a.put o.dst (goInt n)) w') : if Region.wanted o (yielded ops a.tmps) = true then Oper.wp P o a w K Q else F := by
  have hw : Region.wanted o (yielded ops a.tmps) = true := by simp [Region.wanted, hgd]
  rw [if_pos hw]
  unfold Oper.wp execOp
  simp only [ho, resolve, invoke, builtin, Sem.run_bind, Sem.run_pure, Result.andThen_ok, List.map_toArray, List.map_cons, List.map_nil, hd, hx, hr]
  exact h _ (hg.setRow cs') (Kg.setRow _ _ _)
/-- An append whose run is known to stay in its block. -/
theorem step_appK (hgd : o.guard = none) (d x : Operand) {dT sT : TypeId} (ho : o.op = .call { callee := .builtin .append, args := #[d, x], argTypes := #[dT, sT] }) (v u r : Value) (hd : a.eval d = v) (hx : a.eval x = u) {g : Nat} {t : TypeId} {cur : List Value}
    (hg : BK w g t cur) {cs' : List Value} (hr : ∀ ty, (Builtin.append_ #[dT, sT] ty #[v, u]).run P w = .ok r (w.setRow g cs'.toArray))
    (h : ∀ w', Hid (BK w' g t cs') → Kg g w w' → K (a.put o.dst r) w') : if Region.wanted o (yielded ops a.tmps) = true then Oper.wp P o a w K Q else F := by
  have hw : Region.wanted o (yielded ops a.tmps) = true := by simp [Region.wanted, hgd]
  rw [if_pos hw]
  unfold Oper.wp execOp
  simp only [ho, resolve, invoke, builtin, Sem.run_bind, Sem.run_pure, Result.andThen_ok, List.map_toArray, List.map_cons, List.map_nil, hd, hx, hr]
  exact h _ (hg.setRow cs') (Kg.setRow _ _ _)
theorem list_clear (hgd : o.guard = none) (d : Operand) {dT : TypeId} (ho : o.op = .call { callee := .builtin .clear, args := #[d], argTypes := #[dT] }) (v : Value) (hd : a.eval d = v) {g : Nat} {t : TypeId} {cur : List Value}
    (hg : BK w g t cur) {cs' : List Value} (hr : ∀ ty, (Builtin.clear_ #[dT] ty #[v]).run P w = .ok (.tuple #[]) (w.setRow g cs'.toArray))
    (h : ∀ w', Hid (BK w' g t cs') → Kg g w w' → wpList P ops Q rest (a.put o.dst (.tuple #[])) w') : wpList P ops Q (o :: rest) a w := by
  refine wpList_plain hgd fun K hK => ?_
  unfold Oper.wp execOp
  simp only [ho, resolve, invoke, builtin, Sem.run_bind, Sem.run_pure, Result.andThen_ok, List.map_toArray, List.map_cons, List.map_nil, hd, hr]
  exact hK _ _ (h _ (hg.setRow cs') (Kg.setRow _ _ _))
end
end Go.Proofs.Ytcpponjknmkfaaa
