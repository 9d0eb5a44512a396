/-
  copy, append within the capacity, clear, append of zeros: at slices of elements of several
  A store into the second cell of a pair of an owned slice
  plain.within, hedgref.Between, hedgref.MapRight, plain.Check: what they answer
  Plain laws on lists of pairs whose keys rise
  plain.find and what it calls (cmp.Compare, slices.BinarySearchFunc at pairs): what they an
  slices.Insert at pairs, one value: what it answers
  slices.Delete at pairs, one element: what it answers
  plain.told, plain.put: what they answer
  slices.Clone at pairs and spots: what it answers
-/
import Derived.Test.YtcljlnagpjilaaaGreatDoorG3
import Derived.Laws.CopyOwn
import Derived.Lib.AppendZerosOnto
import Derived.Lib.Overlaps
import Derived.Lib.SliceRun
import Derived.Test.YtcljlnagpjilaaaGreatDoorG1
import Derived.Laws.NewBlocks

set_option linter.unusedVariables false
set_option linter.unusedSimpArgs false
set_option maxRecDepth 100000
set_option maxHeartbeats 8000000
namespace Go.Proofs.YtcljlnagpjilaaaGreatDoor
open Go.ChangeShapes Go.WideShapes Go.ChangeAt Go.RowKit
def BK (w : World) (g : Nat) (t : TypeId) (cur : List Value) : Prop := w.heap[g]? = some (.cells cur.toArray t (0, 0))
section
variable {P : Program} {w w' : World} {g : Nat} {t : TypeId} {cur cs : List Value}
theorem BK.lt (h : BK w g t cur) : g < w.heap.size := (Array.getElem?_eq_some_iff.1 h).1
theorem BK.kp (h : BK w g t cur) (hk : Kp w w') : BK w' g t cur := (hk.bel.block g h.lt).trans h
theorem BK.kg {b : Nat} (h : BK w g t cur) (hn : g ≠ b) (hk : Kg b w w') : BK w' g t cur := (hk.block h.lt hn).trans h
theorem BK.cell (h : BK w g t cur) (j : Nat) : w.cell? ⟨g, j, none⟩ = cur[j]? := by
 rw [cell_of_row w g j _ t (0, 0) h]; simp
theorem Kg.setRow (w : World) (g : Nat) (cs : Array Value) : Kg g w (w.setRow g cs) := ⟨rfl, rfl, rfl, by simp, fun k hk hn => setRow_other w g k cs (fun e => hn (by rw [e]))⟩
theorem BK.setRow (h : BK w g t cur) (cs : List Value) : BK (w.setRow g cs.toArray) g t cs := setRow_heap w g _ _ t _ h
theorem BK.of_ow {α : Type} {B : Nat} {E : Enc α} {e : TypeId} {n c : Nat} {l : List α} (h : OW w B e E (.slice (some ⟨g, 0, none⟩) n c) l) : ∃ cur : List Value, BK w g e cur /\ B <= g /\ n <= c /\ c <= maxLen /\ cur.length = c * E.size /\ cur.take (n * E.size) = l.flatMap E.cells /\ n = l.length := by
 obtain ⟨h1, h2⟩ := h
 have hn : n = l.length := by
  rcases h2 with ⟨h2, _⟩ | ⟨g', cap, cur, hv, _⟩
  ·cases h2
  ·injection hv
 rcases h2 with ⟨h2, _⟩ | ⟨g', cap, cur, hv, hb, hg, h3, h4, h5, h6⟩
 ·cases h2
 ·injection hv with e1 e2 e3
  injection e1 with e1
  injection e1 with e1 _
  subst e1 e3
  refine ⟨cur.toList, ?_, hb, by omega, h4, by simpa using h5, by rw [hn]; simpa using h6, hn⟩
  unfold BK
  simpa using hg
theorem BK.ow {α : Type} {B : Nat} {E : Enc α} {e : TypeId} {c : Nat} {l : List α} (h : BK w g e cur) (hB : B <= g) (hn : l.length <= c) (hc : c <= maxLen) (hl : cur.length = c * E.size) (ht : cur.take (l.length * E.size) = l.flatMap E.cells) :
  OW w B e E (.slice (some ⟨g, 0, none⟩) l.length c) l :=
 ⟨flat_len E l, .inr ⟨g, c, cur.toArray, rfl, hB, h, hn, hc, by simpa using hl, by simpa using ht⟩⟩
theorem splice_len (L : List Value) (off : Nat) (cs : List Value) (h : off + cs.length <= L.length) : (splice L off cs).length = L.length := length_splice L off cs h
theorem splice_at {α : Type} (L : List α) (off : Nat) (cs : List α) (h : off + cs.length <= L.length) (j : Nat) : (splice L off cs)[j]? = if j < off then L[j]? else if j < off + cs.length then cs[j - off]? else L[j]? := by
 unfold splice
 by_cases h1 : j < off
 ·rw [if_pos h1, List.getElem?_append_left (by simp; omega), List.getElem?_take, if_pos h1]
 ·rw [if_neg h1, List.getElem?_append_right (by simp; omega)]
  have e : (L.take off).length = off := by simp; omega
  rw [e]
  by_cases h2 : j < off + cs.length
  ·rw [if_pos h2, List.getElem?_append_left (by omega)]
  ·rw [if_neg h2, List.getElem?_append_right (by omega), List.getElem?_drop]
   congr 1; omega
theorem run_storeRow (hg : BK w g t cur) (o : Nat) (hfit : o + cs.length <= cur.length) (h1 : ∀ v ∈ cs, v.oneCell' = true) : (storeCells ⟨g, o, none⟩ cs).run P w = .ok () (w.setRow g (splice cur o cs).toArray) := by
 have h := run_storeCells_at P g o t cs 0 cur.toArray w hg (by simpa using hfit) h1
 rw [h]
 simp [splice]
theorem add_lit (b o j : Nat) : (⟨b, o, none⟩ : Addr).add j = ⟨b, o + j, none⟩ := by unfold Addr.add; split <;> simp_all
theorem run_copyK {dT sT ty elem : TypeId} {i0 : TypeInfo} (hi : P.info? elem = some i0) (hu : P.underlying dT = some (.slice elem)) (o dLen dCap : Nat) (a : Addr) (sLen sCap : Nat) (hg : BK w g t cur)
  (hn : cs.length = Nat.min sLen dLen * i0.size) (hsrc : ∀ j v, cs[j]? = some v -> w.cell? (a.add j) = some v) (hfit : o + cs.length <= cur.length) (h1 : ∀ v ∈ cs, v.oneCell' = true) :
  (Builtin.copy_ #[dT, sT] ty #[.slice (some ⟨g, o, none⟩) dLen dCap, .slice (some a) sLen sCap]).run P w = .ok (goInt (Nat.min sLen dLen)) (w.setRow g (splice cur o cs).toArray) := by
 have hf := run_firstCells_some (P := P) w i0.size (Nat.min sLen dLen) a sLen sCap cs hn hsrc
 have hst := run_storeRow (P := P) hg o hfit h1
 simp [Builtin.copy_, run_underlying hu, Builtin.lenOf, sizeOf, typeInfo, hi, hf, hst]
theorem run_appendK {tt tx ty elem : TypeId} {i0 : TypeInfo} (hi : P.info? elem = some i0) (hu : P.underlying tt = some (.slice elem)) (hx : P.underlying tx = some (.slice elem)) (n c : Nat) (a : Addr) (m sCap : Nat) (hg : BK w g t cur)
  (hn : cs.length = m * i0.size) (hroom : n + m <= c) (hsrc : ∀ j v, cs[j]? = some v -> w.cell? (a.add j) = some v) (hfit : n * i0.size + cs.length <= cur.length) (h1 : ∀ v ∈ cs, v.oneCell' = true) :
  (Builtin.append_ #[tt, tx] ty #[.slice (some ⟨g, 0, none⟩) n c, .slice (some a) m sCap]).run P w = .ok (.slice (some ⟨g, 0, none⟩) (n + m) c) (w.setRow g (splice cur (n * i0.size) cs).toArray) := by
 have hs : Src P i0.size tx (.slice (some a) m sCap) m cs w := Src.ofSlice w hx a m sCap cs hn hsrc h1
 have h := run_append_room_src (P := P) w tt tx ty elem i0 hu hi g 0 n c (.slice (some a) m sCap) m cs hs hroom (fun j hj => by
  rw [Nat.zero_add, hg.cell, List.getElem?_eq_getElem (by omega)]; rfl) (fun j hj => by
  unfold BK at hg
  simp [World.frozen?, hg])
 rw [h]
 have h2 := run_storeRow (P := P) hg (n * i0.size) hfit h1
 have h3 := run_storeCells_cells (P := P) g (n * i0.size) cs 0 w (fun j hj => by rw [Nat.add_zero, hg.cell, List.getElem?_eq_getElem (by omega)]; rfl) (fun j hj => by
  unfold BK at hg
  simp [World.frozen?, hg]) h1
 rw [h2] at h3
 injection h3 with _ h3
 rw [h3]
 simp
theorem run_clearK {tt ty elem : TypeId} {i0 : TypeInfo} {z : Value} (hi : P.info? elem = some i0) (hz : i0.zero = some z) (hu : P.underlying tt = some (.slice elem)) (o n c : Nat) (hn : 0 < n) (hg : BK w g t cur)
  (hzs : z.cells.size = i0.size) (hfit : o + n * i0.size <= cur.length) (h1 : ∀ v ∈ (Builtin.zeroCells z.cells n).toList, v.oneCell' = true) :
  (Builtin.clear_ #[tt] ty #[.slice (some ⟨g, o, none⟩) n c]).run P w = .ok (.tuple #[]) (w.setRow g (splice cur o (Builtin.zeroCells z.cells n).toList).toArray) := by
 have hl : (Builtin.zeroCells z.cells n).toList.length = n * i0.size := by rw [Array.length_toList, size_zeroCells, hzs]
 have hst := run_storeRow (P := P) hg o (cs := (Builtin.zeroCells z.cells n).toList) (by rw [hl]; exact hfit) h1
 cases n with
 | zero => omega
 | succ n => simp [Builtin.clear_, run_underlying hu, zeroValue, typeInfo, hi, hz, hst]
end
section
variable {P : Program} {w : World} {ops : Array Oper} {rest : List Oper} {o : Oper} {a : Act} {Q : Exit -> Act -> World -> Prop} {K : Act -> World -> Prop} {F : Prop}
theorem list_copy (hgd : o.guard = none) (d x : Operand) {dT sT : TypeId} (ho : o.op = .call { callee := .builtin .copy, args := #[d, x], argTypes := #[dT, sT] }) (v u : Value) (hd : a.eval d = v) (hx : a.eval x = u) {n : Nat} {g : Nat} {t : TypeId} {cur : List Value}
  (hg : BK w g t cur) {cs' : List Value} (hr : ∀ ty, (Builtin.copy_ #[dT, sT] ty #[v, u]).run P w = .ok (goInt n) (w.setRow g cs'.toArray))
  (h : ∀ w', Hid (BK w' g t cs') -> Kg g w w' -> wpList P ops Q rest (a.put o.dst (goInt n)) w') : wpList P ops Q (o :: rest) a w := by
 refine wpList_plain hgd fun K hK => ?_
 unfold Oper.wp execOp
 simp only [ho, resolve, invoke, builtin, Sem.run_bind, Sem.run_pure, Result.andThen_ok, List.map_toArray, List.map_cons, List.map_nil, hd, hx, hr]
 exact hK _ _ (h _ (hg.setRow cs') (Kg.setRow _ _ _))
theorem step_copy (hgd : o.guard = none) (d x : Operand) {dT sT : TypeId} (ho : o.op = .call { callee := .builtin .copy, args := #[d, x], argTypes := #[dT, sT] }) (v u : Value) (hd : a.eval d = v) (hx : a.eval x = u) {n : Nat} {g : Nat} {t : TypeId} {cur : List Value}
  (hg : BK w g t cur) {cs' : List Value} (hr : ∀ ty, (Builtin.copy_ #[dT, sT] ty #[v, u]).run P w = .ok (goInt n) (w.setRow g cs'.toArray))
  (h : ∀ w', Hid (BK w' g t cs') -> Kg g w w' -> K (a.put o.dst (goInt n)) w') : if Region.wanted o (yielded ops a.tmps) = true then Oper.wp P o a w K Q else F := by
 have hw : Region.wanted o (yielded ops a.tmps) = true := by simp [Region.wanted, hgd]
 rw [if_pos hw]
 unfold Oper.wp execOp
 simp only [ho, resolve, invoke, builtin, Sem.run_bind, Sem.run_pure, Result.andThen_ok, List.map_toArray, List.map_cons, List.map_nil, hd, hx, hr]
 exact h _ (hg.setRow cs') (Kg.setRow _ _ _)
theorem step_appK (hgd : o.guard = none) (d x : Operand) {dT sT : TypeId} (ho : o.op = .call { callee := .builtin .append, args := #[d, x], argTypes := #[dT, sT] }) (v u r : Value) (hd : a.eval d = v) (hx : a.eval x = u) {g : Nat} {t : TypeId} {cur : List Value}
  (hg : BK w g t cur) {cs' : List Value} (hr : ∀ ty, (Builtin.append_ #[dT, sT] ty #[v, u]).run P w = .ok r (w.setRow g cs'.toArray))
  (h : ∀ w', Hid (BK w' g t cs') -> Kg g w w' -> K (a.put o.dst r) w') : if Region.wanted o (yielded ops a.tmps) = true then Oper.wp P o a w K Q else F := by
 have hw : Region.wanted o (yielded ops a.tmps) = true := by simp [Region.wanted, hgd]
 rw [if_pos hw]
 unfold Oper.wp execOp
 simp only [ho, resolve, invoke, builtin, Sem.run_bind, Sem.run_pure, Result.andThen_ok, List.map_toArray, List.map_cons, List.map_nil, hd, hx, hr]
 exact h _ (hg.setRow cs') (Kg.setRow _ _ _)
theorem list_clear (hgd : o.guard = none) (d : Operand) {dT : TypeId} (ho : o.op = .call { callee := .builtin .clear, args := #[d], argTypes := #[dT] }) (v : Value) (hd : a.eval d = v) {g : Nat} {t : TypeId} {cur : List Value}
  (hg : BK w g t cur) {cs' : List Value} (hr : ∀ ty, (Builtin.clear_ #[dT] ty #[v]).run P w = .ok (.tuple #[]) (w.setRow g cs'.toArray))
  (h : ∀ w', Hid (BK w' g t cs') -> Kg g w w' -> wpList P ops Q rest (a.put o.dst (.tuple #[])) w') : wpList P ops Q (o :: rest) a w := by
 refine wpList_plain hgd fun K hK => ?_
 unfold Oper.wp execOp
 simp only [ho, resolve, invoke, builtin, Sem.run_bind, Sem.run_pure, Result.andThen_ok, List.map_toArray, List.map_cons, List.map_nil, hd, hr]
 exact hK _ _ (h _ (hg.setRow cs') (Kg.setRow _ _ _))
end
theorem OW.setVal {w : World} {B : Nat} {e : TypeId} {g n c : Nat} {l : List IP} (h : OW w B e ePair (.slice (some ⟨g, 0, none⟩) n c) l) (k : Nat) (hk : k < l.length) (x : Int) :
  OW (w.setCell ⟨g, k * 2 + 1, none⟩ (.int .i64 x)) B e ePair (.slice (some ⟨g, 0, none⟩) n c) (l.set k (l[k].1, x)) := by
 obtain ⟨cur, hbk, hB, hnc, hcm, hcl, htk, hn⟩ := BK.of_ow h
 have hes : ePair.size = 2 := rfl
 rw [hes] at hcl htk
 have hn' : n = (l.set k (l[k].1, x)).length := by simp [hn]
 have hb2 : BK (w.setCell ⟨g, k * 2 + 1, none⟩ (.int .i64 x)) g e (cur.set (k * 2 + 1) (.int .i64 x)) := by
  unfold BK at hbk ⊢
  simp only [World.setCell, Array.getElem?_modify, hbk]
  simp
 rw [hn']
 refine BK.ow (E := ePair) hb2 hB (by omega) hcm (by rw [List.length_set, hcl, hes]) ?_
 have hf := flat_set_pair (l[k].1, x) l k
 rw [<- hf, hes, List.take_set]
 simp only [List.length_set]
 rw [<- hn, htk]
 congr 1
 symm
 apply List.ext_getElem?
 intro j
 by_cases hj : j = k * 2
 ·subst hj
  have h1 := flat_at ePair l k hk 0 (by decide)
  rw [hes, Nat.add_zero] at h1
  rw [List.getElem?_set_self (by rw [flat_len, hes]; omega), h1]
  rfl
 ·rw [List.getElem?_set_ne (by omega)]
theorem OW.cellPair {w : World} {B : Nat} {e : TypeId} {g n c : Nat} {l : List IP} (h : OW w B e ePair (.slice (some ⟨g, 0, none⟩) n c) l) (k : Nat) (hk : k < l.length) :
  w.cell? ⟨g, k * 2 + 1, none⟩ = some (.int .i64 l[k].2) /\ w.frozen? ⟨g, k * 2 + 1, none⟩ = false := by
 obtain ⟨cur, hbk, _, _, _, _, _, hn⟩ := BK.of_ow h
 subst hn
 obtain ⟨b, o, e1, _, _, c1⟩ := h.rd.pair hk
 injection e1 with e1
 injection e1 with e2 e3
 subst e2 e3
 refine ⟨by rwa [Nat.zero_add] at c1, ?_⟩
 unfold BK at hbk
 simp [World.frozen?, hbk]
def btw (n lo hi : Int) : Bool := decide (lo <= n /\ n <= hi)
theorem btw_iff (n lo hi : Int) : btw n lo hi = true ↔ lo <= n /\ n <= hi := by simp [btw]
theorem btw_f_iff (n lo hi : Int) : btw n lo hi = false ↔ ¬ (lo <= n /\ n <= hi) := by simp [btw]
theorem btw_cases (n lo hi : Int) : (btw n lo hi = true /\ lo <= n /\ n <= hi) ∨ (btw n lo hi = false /\ (n < lo ∨ hi < n)) := by
 by_cases h : lo <= n /\ n <= hi
 ·exact .inl ⟨(btw_iff _ _ _).2 h, h⟩
 ·exact .inr ⟨(btw_f_iff _ _ _).2 h, by omega⟩
theorem between_any (n lo hi : Int) (w : World) :
  Calls Tryz.prog 85 #[.int .i64 n, .int .i64 lo, .int .i64 hi] w fun e w' => e = .returned (.bool (btw n lo hi)) /\ w = w' := by
 by_cases h1 : lo <= n
 ·by_cases h2 : n <= hi
  ·go_enter Tryz.func85, Tryz.ntmps85
   go_wp2
   go_ret
   exact ⟨by simp [btw]; omega, rfl⟩
  ·go_enter Tryz.func85, Tryz.ntmps85
   go_wp2
   go_ret
   exact ⟨by simp [btw]; omega, rfl⟩
 ·go_enter Tryz.func85, Tryz.ntmps85
  go_wp2
  go_ret
  exact ⟨by simp [btw]; omega, rfl⟩
theorem within_any (n lo hi : Int) (w : World) :
  Calls Tryz.prog 108 #[.int .i64 n, .int .i64 lo, .int .i64 hi] w fun e w' => e = .returned (.bool (btw n lo hi)) /\ w = w' := by
 by_cases h1 : lo <= n
 ·by_cases h2 : n <= hi
  ·go_enter Tryz.func108, Tryz.ntmps108
   go_wp2
   go_ret
   exact ⟨by simp [btw]; omega, rfl⟩
  ·go_enter Tryz.func108, Tryz.ntmps108
   go_wp2
   go_ret
   exact ⟨by simp [btw]; omega, rfl⟩
 ·go_enter Tryz.func108, Tryz.ntmps108
  go_wp2
  go_ret
  exact ⟨by simp [btw]; omega, rfl⟩
theorem within_to (n lo hi : Int) (b : Bool) (w : World) (h : btw n lo hi = b) :
  Calls Tryz.prog 108 #[.int .i64 n, .int .i64 lo, .int .i64 hi] w fun e w' => e = .returned (.bool b) /\ w = w' := by
 have := within_any n lo hi w
 rwa [h] at this
def mrFrom (last : Int) : List IP -> Int
 | [] => 0
 | p :: t => if btw p.1 (last + 1) 1000000 then mrFrom p.1 t else 3
def mapRight (l : List IP) : Int := if l.length > 200 then 2 else mrFrom (-1) l
theorem mrFrom_drop (l : List IP) (k : Nat) (h : k < l.length) (last : Int) : mrFrom last (l.drop k) = if btw l[k].1 (last + 1) 1000000 then mrFrom l[k].1 (l.drop (k+1)) else 3 := by
 rw [List.drop_eq_getElem_cons h, mrFrom]
theorem mrFrom_end (l : List IP) (k : Nat) (h : ¬ k < l.length) (last : Int) : mrFrom last (l.drop k) = 0 := by
 rw [List.drop_of_length_le (by omega)]; rfl
theorem mapRight_len (l : List IP) (h : mapRight l = 0) : l.length <= 200 := by
 unfold mapRight at h
 split at h
 ·omega
 ·omega
def CRel (l : List IP) (w : World) (i : Value) (wr : World) : Prop :=
 ∃ (k : Nat) (last : Int), k <= l.length /\ i = .int .i64 k /\ -1 <= last /\ last <= 1000000 /\ (k = 0 -> last = -1) /\ (∀ h : k - 1 < l.length, 0 < k -> last = l[k-1].1 /\ 0 <= last) /\ mrFrom last (l.drop k) = mrFrom (-1) l /\ Below w.heap.size w wr
theorem check_any (l : List IP) (v : Value) (w : World) (hr : RD w ePair v l) :
  Calls Tryz.prog 106 #[v] w (Ret (.int .i64 (mapRight l)) w) := by
 obtain ⟨A, c, rfl, hc, hm⟩ := hr.shape
 by_cases hlen : l.length > 200
 ·go_enter Tryz.func106, Tryz.ntmps106
  go_wp2
  go_ret
  exact ⟨by simp [mapRight, hlen], Below.refl _ _⟩
 ·have hres : Hid (mapRight l = mrFrom (-1) l) := hide (by simp [mapRight, hlen])
  have HR := hide hr
  clear hr
  go_enter Tryz.func106, Tryz.ntmps106
  go_wp2
  go_loopw [10] (CRel l w) (fun i wr => l.length - (intOf i).toNat)
  case atStart => exact ⟨0, -1, by omega, rfl, by omega, by omega, fun _ => rfl, fun _ h => by omega, rfl, Below.refl _ _⟩
  case round =>
   obtain ⟨k, last, hk, rfl, h1, h2, h3, h4, hmr, hbel⟩ := hrel
   have hmr' := hide hmr
   clear hmr
   have hz := hbel.size
   by_cases hlt : k < l.length
   ·obtain ⟨b, o, rfl, hb, c0, c1⟩ := (HR.out.below hbel).pair hlt
    have hd := mrFrom_drop l k hlt last
    rcases btw_cases l[k].1 0 1000000 with ⟨hB, hb3, hb4⟩ | ⟨hB, hb3⟩
    ·have hB' := hide hB
     clear hB
     by_cases hk0 : k = 0
     ·have hl : last = -1 := h3 hk0
      have hd1 : btw l[k].1 (last + 1) 1000000 = true := (btw_iff _ _ _).2 ⟨by omega, hb4⟩
      rw [hd1, if_pos rfl] at hd
      have hd' := hide hd
      have hg : decide (0 < k) = false := by simp; omega
      have hl' := hide hl
      have hk0' := hide hk0
      clear hd hd1 h3 h4 hl hk0
      go_wp2_with fail
      go_quiet ((go_at_call 108; exact Calls.quiet_of_same ((within_to _ _ _ true _ hB'.out).mono fun _ _ h => ⟨h.1, h.2.symm⟩)))
      go_wp2
      go_roundw
      case rel => exact ⟨k+1, l[k].1, by omega, by go_num, by omega, by omega, fun h => by omega, fun _ _ => ⟨rfl, hb3⟩, by rw [<- hd'.out, hmr'.out], (by (repeat' (first | exact Below.refl _ _ | (with_reducible assumption) | apply Below.drew | apply below_drewN | apply Below.alloc | apply Below.setCell)); all_goals (first | omega | (simp; omega) | (simp; done)))⟩
      case measure => simp [intOf]; omega
     ·obtain ⟨hl, hl0⟩ := h4 (by omega) (by omega)
      obtain ⟨b2, o2, e2, _, c2, _⟩ := (HR.out.below hbel).pair (k := k - 1) (by omega)
      injection e2 with e2
      injection e2 with e3 e4
      subst e3 e4
      have hg : decide (0 < k) = true := by simp; omega
      have hw1 : IntKind.i64.wrap ((k : Int) - 1) = (k : Int) - 1 := IntWalk.i64_in _ (by omega)
      have hw2 : (0 : Int) <= (k : Int) - 1 := by omega
      have hw3 : (k : Int) - 1 < (l.length : Int) := by omega
      have hw4 : ((k : Int) - 1).toNat = k - 1 := by omega
      by_cases hge : l[k].1 <= l[k-1].1
      ·have hd1 : btw l[k].1 (last + 1) 1000000 = false := (btw_f_iff _ _ _).2 (by omega)
       rw [hd1, if_neg (by simp)] at hd
       have hd' := hide hd
       have hl' := hide hl
       clear hd hd1 h3 h4 hl hk0
       go_wp2_with fail
       go_quiet ((go_at_call 108; exact Calls.quiet_of_same ((within_to _ _ _ true _ hB'.out).mono fun _ _ h => ⟨h.1, h.2.symm⟩)))
       go_wp2
       go_ret
       exact ⟨by rw [hres.out, <- hmr'.out, hd'.out]; rfl, (by (repeat' (first | exact Below.refl _ _ | (with_reducible assumption) | apply Below.drew | apply below_drewN | apply Below.alloc | apply Below.setCell)); all_goals (first | omega | (simp; omega) | (simp; done)))⟩
      ·have hd1 : btw l[k].1 (last + 1) 1000000 = true := (btw_iff _ _ _).2 ⟨by omega, hb4⟩
       rw [hd1, if_pos rfl] at hd
       have hd' := hide hd
       have hl' := hide hl
       clear hd hd1 h3 h4 hl hk0
       go_wp2_with fail
       go_quiet ((go_at_call 108; exact Calls.quiet_of_same ((within_to _ _ _ true _ hB'.out).mono fun _ _ h => ⟨h.1, h.2.symm⟩)))
       go_wp2
       go_roundw
       case rel => exact ⟨k+1, l[k].1, by omega, by go_num, by omega, by omega, fun h => by omega, fun _ _ => ⟨rfl, hb3⟩, by rw [<- hd'.out, hmr'.out], (by (repeat' (first | exact Below.refl _ _ | (with_reducible assumption) | apply Below.drew | apply below_drewN | apply Below.alloc | apply Below.setCell)); all_goals (first | omega | (simp; omega) | (simp; done)))⟩
       case measure => simp [intOf]; omega
    ·have hd1 : btw l[k].1 (last + 1) 1000000 = false := (btw_f_iff _ _ _).2 (by omega)
     rw [hd1, if_neg (by simp)] at hd
     have hd' := hide hd
     have hB' := hide hB
     clear hd hd1 h3 h4 hB hb3
     go_wp2_with fail
     go_quiet ((go_at_call 108; exact Calls.quiet_of_same ((within_to _ _ _ false _ hB'.out).mono fun _ _ h => ⟨h.1, h.2.symm⟩)))
     go_wp2
     go_ret
     exact ⟨by rw [hres.out, <- hmr'.out, hd'.out]; rfl, (by (repeat' (first | exact Below.refl _ _ | (with_reducible assumption) | apply Below.drew | apply below_drewN | apply Below.alloc | apply Below.setCell)); all_goals (first | omega | (simp; omega) | (simp; done)))⟩
   ·go_wp2
    go_ret
    exact ⟨by rw [hres.out, <- hmr'.out, mrFrom_end _ _ hlt]; rfl, hbel⟩
theorem mrFrom_cons {p : IP} {t : List IP} {last : Int} (h : mrFrom last (p :: t) = 0) : last < p.1 /\ p.1 <= 1000000 /\ mrFrom p.1 t = 0 := by
 unfold mrFrom at h
 split at h
 ·rename_i hb
  have := (btw_iff _ _ _).1 hb
  exact ⟨by omega, this.2, h⟩
 ·omega
theorem mrFrom_gt : ∀ (l : List IP) (last : Int), mrFrom last l = 0 -> ∀ x ∈ l, last < x.1
 | [], _, _, x, hx => by cases hx
 | p :: t, last, h, x, hx => by
  obtain ⟨h1, h2, h3⟩ := mrFrom_cons h
  rcases List.mem_cons.1 hx with rfl | hx
  ·exact h1
  ·have := mrFrom_gt t p.1 h3 x hx; omega
theorem mapRight_from (l : List IP) (h : mapRight l = 0) : mrFrom (-1) l = 0 := by
 unfold mapRight at h
 split at h
 ·omega
 ·exact h
theorem mrFrom_rise : ∀ (l : List IP) (last : Int), mrFrom last l = 0 -> ∀ i j (hi : i < l.length) (hj : j < l.length), i < j -> l[i].1 < l[j].1
 | p :: t, last, h, 0, j + 1, hi, hj, _ => by
  obtain ⟨_, _, h3⟩ := mrFrom_cons h
  simp only [List.getElem_cons_zero, List.getElem_cons_succ]
  exact mrFrom_gt t p.1 h3 _ (List.getElem_mem _)
 | p :: t, last, h, i + 1, j + 1, hi, hj, hij => by
  obtain ⟨_, _, h3⟩ := mrFrom_cons h
  simp only [List.getElem_cons_succ]
  exact mrFrom_rise t p.1 h3 i j (by simpa using hi) (by simpa using hj) (by omega)
 | _, _, _, 0, 0, _, _, h => by omega
 | _, _, _, i + 1, 0, _, _, h => by omega
theorem mrFrom_le6 : ∀ (l : List IP) (last : Int), mrFrom last l = 0 -> ∀ x ∈ l, x.1 <= 1000000
 | [], _, _, x, hx => by cases hx
 | p :: t, last, h, x, hx => by
  obtain ⟨h1, h2, h3⟩ := mrFrom_cons h
  rcases List.mem_cons.1 hx with rfl | hx
  ·exact h2
  ·exact mrFrom_le6 t p.1 h3 x hx
theorem mapRight_rise (l : List IP) (h : mapRight l = 0) (i j : Nat) (hi : i < l.length) (hj : j < l.length) (hij : i < j) : l[i].1 < l[j].1 := mrFrom_rise l (-1) (mapRight_from l h) i j hi hj hij
theorem mapRight_in (l : List IP) (h : mapRight l = 0) (x : IP) (hx : x ∈ l) : 0 <= x.1 /\ x.1 <= 1000000 :=
 ⟨by have := mrFrom_gt l (-1) (mapRight_from l h) x hx; omega, mrFrom_le6 l (-1) (mapRight_from l h) x hx⟩
theorem isNaN_any (n : Int) (w : World) : Calls Tryz.prog 130 #[.int .i64 n] w fun e w' => e = .returned (.bool false) /\ w = w' := by
 have h : (n != n) = false := by simp
 go_enter Tryz.func130, Tryz.ntmps130
 go_wp2
 go_ret
 exact ⟨rfl, rfl⟩
def cmp3 (a b : Int) : Int := if a < b then -1 else if b < a then 1 else 0
theorem compare_any (a b : Int) (w : World) : Calls Tryz.prog 80 #[.int .i64 a, .int .i64 b] w fun e w' => e = .returned (.int .i64 (cmp3 a b)) /\ w = w' := by
 rcases Int.lt_trichotomy a b with h | h | h
 ·have hc : Hid (cmp3 a b = -1) := hide (by rw [cmp3, if_pos h])
  have h1 : decide (a < b) = true := by simp [h]
  clear h
  go_enter Tryz.func80, Tryz.ntmps80
  go_wp2_with (go_at_call 130; refine (isNaN_any _ _).mono ?_; rintro e w' ⟨rfl, rfl⟩)
  go_ret
  exact ⟨by rw [hc.out]; rfl, rfl⟩
 ·have hc : Hid (cmp3 a b = 0) := hide (by rw [cmp3, if_neg (by omega), if_neg (by omega)])
  have h1 : decide (a < b) = false := by simp; omega
  have h2 : decide (b < a) = false := by simp; omega
  clear h
  go_enter Tryz.func80, Tryz.ntmps80
  go_wp2_with (go_at_call 130; refine (isNaN_any _ _).mono ?_; rintro e w' ⟨rfl, rfl⟩)
  go_ret
  exact ⟨by rw [hc.out]; rfl, rfl⟩
 ·have hc : Hid (cmp3 a b = 1) := hide (by rw [cmp3, if_neg (by omega), if_pos h])
  have h1 : decide (a < b) = false := by simp; omega
  have h2 : decide (b < a) = true := by simp; omega
  clear h
  go_enter Tryz.func80, Tryz.ntmps80
  go_wp2_with (go_at_call 130; refine (isNaN_any _ _).mono ?_; rintro e w' ⟨rfl, rfl⟩)
  go_ret
  exact ⟨by rw [hc.out]; rfl, rfl⟩
theorem cmp3_neg (a b : Int) : decide (cmp3 a b < 0) = decide (a < b) := by
 unfold cmp3; split <;> (try split) <;> simp <;> omega
theorem cmp3_zero (a b : Int) : (cmp3 a b == 0) = (a == b) := by
 unfold cmp3; split <;> (try split) <;> simp <;> omega
theorem find1_any (a1 a2 k : Int) (w : World) : Calls Tryz.prog 155 #[.agg #[.int .i64 a1, .int .i64 a2], .int .i64 k] w (Ret (.int .i64 (cmp3 a1 k)) w) := by
 go_enter Tryz.func155, Tryz.ntmps155
 go_wp2_with (go_at_call 80; refine (compare_any _ _ _).mono ?_; rintro e w' ⟨rfl, rfl⟩)
 go_ret
 exact ⟨rfl, (Kp.refl w).alloc.bel⟩
def below (l : List IP) (k : Int) : Nat := (l.filter fun p => decide (p.1 < k)).length
def hasKey (l : List IP) (k : Int) : Bool := l.any fun p => p.1 == k
def Rise (l : List IP) : Prop := ∀ i j (hi : i < l.length) (hj : j < l.length), i < j -> l[i].1 < l[j].1
theorem Rise.tail {p : IP} {l : List IP} (h : Rise (p :: l)) : Rise l := fun i j hi hj hij => h (i + 1) (j + 1) (by simp; omega) (by simp; omega) (by omega)
theorem below_le (l : List IP) (k : Int) : below l k <= l.length := List.length_filter_le _ _
theorem below_cut : ∀ (l : List IP), Rise l -> ∀ k i (hi : i < l.length), (i < below l k ↔ l[i].1 < k)
 | [], _, _, i, hi => by simp at hi
 | p :: t, h, k, i, hi => by
  have hz : ∀ j (hj : j < t.length), p.1 < t[j].1 := fun j hj => h 0 (j + 1) (by simp) (by simpa using hj) (by omega)
  by_cases hp : p.1 < k
  ·have e : below (p :: t) k = below t k + 1 := by simp [below, List.filter_cons, hp]
   rw [e]
   cases i with
   | zero => simp [hp]
   | succ i =>
    simp only [List.getElem_cons_succ, Nat.add_lt_add_iff_right]
    exact below_cut t h.tail k i (by simpa using hi)
  ·have e : below (p :: t) k = 0 := by
    have : ∀ x ∈ t, ¬ x.1 < k := fun x hx => by
     obtain ⟨j, hj, rfl⟩ := List.getElem_of_mem hx
     have := hz j hj; omega
    simp only [below, List.length_eq_zero_iff, List.filter_eq_nil_iff, decide_eq_true_eq, List.mem_cons]
    rintro x (rfl | hx)
    ·exact hp
    ·exact this x hx
   rw [e]
   cases i with
   | zero => simp [hp]
   | succ i =>
    simp only [List.getElem_cons_succ]
    have := hz i (by simpa using hi)
    omega
theorem hasKey_iff (l : List IP) (h : Rise l) (k : Int) : hasKey l k = true ↔ ∃ h : below l k < l.length, (l[below l k]'h).1 = k := by
 simp only [hasKey, List.any_eq_true, beq_iff_eq]
 constructor
 ·rintro ⟨x, hx, hk⟩
  obtain ⟨j, hj, rfl⟩ := List.getElem_of_mem hx
  have h1 := (below_cut l h k j hj)
  have hb : below l k <= j := by omega
  have hlt : below l k < l.length := by omega
  refine ⟨hlt, ?_⟩
  have h2 := below_cut l h k (below l k) hlt
  rcases Nat.lt_or_ge (below l k) j with h3 | h3
  ·have := h _ _ hlt hj h3; omega
  ·have e : below l k = j := by omega
   simp only [e]; exact hk
 ·rintro ⟨hlt, hk⟩
  exact ⟨_, List.getElem_mem hlt, hk⟩
def FRel (l : List IP) (k : Int) (w : World) (iv jv : Value) (wr : World) : Prop :=
 ∃ i j : Nat, i <= j /\ j <= l.length /\ iv = .int .i64 i /\ jv = .int .i64 j /\ i <= below l k /\ below l k <= j /\ Kp w wr
theorem bsf_any (l : List IP) (v : Value) (k : Int) (w : World) (hr : RD w ePair v l) (hn : l.length <= 1000) (hs : Rise l) :
  Calls Tryz.prog 154 #[v, .int .i64 k, .func (.func 155) #[] #[]] w (Ret (.tuple #[.int .i64 (below l k : Nat), .bool (hasKey l k)]) w) := by
 obtain ⟨A, c, rfl, hc, hm⟩ := hr.shape
 have HR := hide hr
 have HS := hide hs
 have hble := below_le l k
 clear hr hs
 go_enter Tryz.func154, Tryz.ntmps154
 go_wp2
 go_loopw [9, 10] (FRel l k w) (fun i j _ => (intOf j - intOf i).toNat)
 case atStart => exact ⟨0, l.length, by omega, by omega, rfl, rfl, by omega, hble, Kp.refl _⟩
 case round =>
  obtain ⟨i, j, hij, hj, rfl, rfl, hi2, hj2, hkp⟩ := hrel
  by_cases hlt : i < j
  ·have hml : (i + j) / 2 < l.length := by omega
   obtain ⟨b, o, rfl, _, c0, c1⟩ := (HR.out.kp hkp).pair hml
   have hcut := below_cut l HS.out k ((i + j) / 2) hml
   have hcn := cmp3_neg l[(i + j) / 2].1 k
   have b1 : ((i : Int) + (j : Int)) / 2 < (l.length : Int) := by omega
   by_cases hd : l[(i + j) / 2].1 < k
   ·have hd1 : decide (cmp3 l[(i + j) / 2].1 k < 0) = true := by rw [hcn]; simp [hd]
    have hb : (i + j) / 2 < below l k := hcut.2 hd
    clear hcut hcn hd
    go_wp2_with (go_at_call 155; refine (find1_any _ _ _ _).mono ?_; rintro e w1 ⟨rfl, hb1⟩)
    go_roundw
    case rel => exact ⟨(i + j) / 2 + 1, j, by omega, hj, by go_num, rfl, by omega, hj2, hkp.trans hb1⟩
    case measure => simp [intOf]; omega
   ·have hd1 : decide (cmp3 l[(i + j) / 2].1 k < 0) = false := by rw [hcn]; simp; omega
    have hb : below l k <= (i + j) / 2 := by omega
    clear hcut hcn hd
    go_wp2_with (go_at_call 155; refine (find1_any _ _ _ _).mono ?_; rintro e w1 ⟨rfl, hb1⟩)
    go_roundw
    case rel => exact ⟨i, (i + j) / 2, by omega, by omega, rfl, by go_num, by omega, by omega, hkp.trans hb1⟩
    case measure => simp [intOf]; omega
  ·have hib : Hid (i = below l k) := hide (by omega)
   by_cases hin : i < l.length
   ·obtain ⟨b, o, rfl, _, c0, c1⟩ := (HR.out.kp hkp).pair hin
    have hcz := cmp3_zero l[i].1 k
    have hhk : Hid (hasKey l k = (l[i].1 == k)) := hide (by
     rw [Bool.eq_iff_iff, hasKey_iff l HS.out k, beq_iff_eq, <- hib.out]
     exact ⟨fun ⟨_, h⟩ => h, fun h => ⟨hin, h⟩⟩)
    have hd : decide ((i : Int) < (l.length : Int)) = true := by simp [hin]
    have hd' : decide (i < l.length) = true := by simp [hin]
    have HCZ := hide hcz
    clear hcz
    go_wp2_with (go_at_call 155; refine (find1_any _ _ _ _).mono ?_; rintro e w1 ⟨rfl, hb1⟩)
    go_ret2
    exact ⟨by rw [hhk.out, <- HCZ.out, <- hib.out]; rfl, (hkp.trans hb1).bel⟩
   ·have hhk : Hid (hasKey l k = false) := hide (by
     rw [Bool.eq_false_iff]
     intro h
     obtain ⟨h1, _⟩ := (hasKey_iff l HS.out k).1 h
     omega)
    have hd' : decide (i < l.length) = false := by simp [hin]
    go_wp2
    go_ret2
    exact ⟨by rw [hhk.out, <- hib.out]; rfl, hkp.bel⟩
theorem find_any (l : List IP) (v : Value) (k : Int) (w : World) (hr : RD w ePair v l) (hn : l.length <= 1000) (hs : Rise l) :
  Calls Tryz.prog 109 #[v, .int .i64 k] w (Ret (.tuple #[.int .i64 (below l k : Nat), .bool (hasKey l k)]) w) := by
 have HC := hide (fun w h => bsf_any l v k w h hn hs)
 have HR := hide hr
 clear hr hs
 go_enter Tryz.func109, Tryz.ntmps109
 go_wp2_with fail
 refine (HC.out _ HR.out).mono ?_
 rintro e w1 ⟨rfl, hb1⟩
 go_wp2
 go_ret2
 exact ⟨rfl, hb1⟩
def OPost (B : Nat) (t : TypeId) (l : List IP) (v : Value) (w : World) (e : Ending) (w' : World) : Prop :=
 ∃ v', e = .returned v' /\ OW w' B t ePair v' l /\ w.grownBy w' v.ownBlock /\ (v'.ownBlock = v.ownBlock ∨ ∃ k, v'.ownBlock = some k /\ w.heap.size <= k)
theorem flat_take {α : Type} (E : Enc α) (l : List α) (k : Nat) (h : k <= l.length) : (l.flatMap E.cells).take (k * E.size) = (l.take k).flatMap E.cells := by
 have e : l.flatMap E.cells = (l.take k).flatMap E.cells ++ (l.drop k).flatMap E.cells := by rw [<- List.flatMap_append, List.take_append_drop]
 rw [e, List.take_left']
 rw [flat_len]; simp [h]
theorem flat_drop {α : Type} (E : Enc α) (l : List α) (k : Nat) (h : k <= l.length) : (l.flatMap E.cells).drop (k * E.size) = (l.drop k).flatMap E.cells := by
 have e : l.flatMap E.cells = (l.take k).flatMap E.cells ++ (l.drop k).flatMap E.cells := by rw [<- List.flatMap_append, List.take_append_drop]
 rw [e, List.drop_left']
 rw [flat_len]; simp [h]
theorem cells_drop {w : World} {g : Nat} {t : TypeId} {cur : List Value} {α : Type} {E : Enc α} {l : List α} (hg : BK w g t cur) (ht : cur.take (l.length * E.size) = l.flatMap E.cells) (k : Nat) (hk : k <= l.length) :
  ∀ j v, ((l.drop k).flatMap E.cells)[j]? = some v -> w.cell? ⟨g, k * E.size + j, none⟩ = some v := fun j v hj => by
 rw [hg.cell, <- hj, <- flat_drop E l k hk, <- ht, List.getElem?_drop, List.getElem?_take, if_pos]
 have h1 := (List.getElem?_eq_some_iff.1 hj).1
 rw [flat_len, List.length_drop] at h1
 have h2 : (l.length - k) * E.size = l.length * E.size - k * E.size := Nat.sub_mul _ _ _
 have h3 : k * E.size <= l.length * E.size := Nat.mul_le_mul_right _ hk
 omega
theorem insert_take (cur : List Value) (l : List IP) (x : IP) (i c : Nat) (hi : i < l.length) (hc : l.length + 1 <= c) (hl : cur.length = c * 2) (ht : cur.take (l.length * 2) = l.flatMap ePair.cells) :
  (splice (splice cur ((i + 1) * 2) ((l.drop i).flatMap ePair.cells)) (i * 2) (ePair.cells x)).take ((l.take i ++ [x] ++ l.drop i).length * 2) = (l.take i ++ [x] ++ l.drop i).flatMap ePair.cells := by
 have hdl : ((l.drop i).flatMap ePair.cells).length = (l.length - i) * 2 := by rw [flat_len, List.length_drop]; rfl
 have hxl : (ePair.cells x).length = 2 := rfl
 have hll : (l.take i ++ [x] ++ l.drop i).length = l.length + 1 := by simp; omega
 have hs1 := splice_len cur ((i + 1) * 2) ((l.drop i).flatMap ePair.cells) (by omega)
 have hft : (l.take i).flatMap ePair.cells = cur.take (i * 2) := by
  have h1 := flat_take ePair l i (by omega)
  have h2 : ePair.size = 2 := rfl
  rw [h2] at h1
  rw [<- h1, <- ht, List.take_take, Nat.min_eq_left (by omega)]
 rw [hll]
 apply List.ext_getElem?
 intro j
 rw [List.getElem?_take]
 by_cases hj : j < (l.length + 1) * 2
 ·rw [if_pos hj, splice_at _ _ _ (by omega)]
  simp only [List.flatMap_append, List.flatMap_cons, List.flatMap_nil, List.append_nil, List.append_assoc]
  rw [hft]
  have htl : (cur.take (i * 2)).length = i * 2 := by simp; omega
  by_cases h1 : j < i * 2
  ·rw [if_pos h1, splice_at _ _ _ (by omega), if_pos (by omega), List.getElem?_append_left (by omega), List.getElem?_take, if_pos h1]
  ·rw [if_neg h1, List.getElem?_append_right (by omega), htl]
   by_cases h2 : j < i * 2 + (ePair.cells x).length
   ·rw [if_pos h2, List.getElem?_append_left (by omega)]
   ·rw [if_neg h2, splice_at _ _ _ (by omega), if_neg (by omega), if_pos (by omega), List.getElem?_append_right (by omega), hxl]
    congr 1; omega
 ·rw [if_neg hj, List.getElem?_eq_none]
  rw [flat_len, hll]
  exact Nat.le_of_not_lt hj
theorem insert_new (cur Z : List Value) (l : List IP) (x : IP) (i c G : Nat) (hi : i < l.length) (hG : l.length + 1 <= G) (hZ : i * 2 + Z.length = G * 2) :
  (splice (splice ((l.take i).flatMap ePair.cells ++ Z) (i * 2) (ePair.cells x)) ((i + 1) * 2) ((l.drop i).flatMap ePair.cells)).take ((l.take i ++ [x] ++ l.drop i).length * 2) = (l.take i ++ [x] ++ l.drop i).flatMap ePair.cells := by
 have hdl : ((l.drop i).flatMap ePair.cells).length = (l.length - i) * 2 := by rw [flat_len, List.length_drop]; rfl
 have hxl : (ePair.cells x).length = 2 := rfl
 have hll : (l.take i ++ [x] ++ l.drop i).length = l.length + 1 := by simp; omega
 have htl : ((l.take i).flatMap ePair.cells).length = i * 2 := by rw [flat_len, List.length_take, Nat.min_eq_left (by omega)]; rfl
 have hcl : ((l.take i).flatMap ePair.cells ++ Z).length = G * 2 := by rw [List.length_append]; omega
 have hs1 := splice_len ((l.take i).flatMap ePair.cells ++ Z) (i * 2) (ePair.cells x) (by omega)
 rw [hll]
 apply List.ext_getElem?
 intro j
 rw [List.getElem?_take]
 by_cases hj : j < (l.length + 1) * 2
 ·rw [if_pos hj, splice_at _ _ _ (by omega)]
  simp only [List.flatMap_append, List.flatMap_cons, List.flatMap_nil, List.append_nil, List.append_assoc]
  by_cases h1 : j < (i + 1) * 2
  ·rw [if_pos h1, splice_at _ _ _ (by omega)]
   by_cases h2 : j < i * 2
   ·rw [if_pos h2, List.getElem?_append_left (by omega), List.getElem?_append_left (by omega)]
   ·rw [if_neg h2, if_pos (by omega), List.getElem?_append_right (by omega), List.getElem?_append_left (by omega), htl]
  ·rw [if_neg h1, if_pos (by omega), List.getElem?_append_right (by omega), List.getElem?_append_right (by omega)]
   congr 1; omega
 ·rw [if_neg hj, List.getElem?_eq_none]
  rw [flat_len, hll]
  exact Nat.le_of_not_lt hj
theorem grow_zeros (l : List IP) (i g c : Nat) (w : World) {cur : List Value} (hbk : BK w g 141 cur) (htk : cur.take (l.length * 2) = l.flatMap ePair.cells) (hi : i < l.length) (hc : l.length <= c) (hroom : c < l.length + 1) (hn : l.length <= 1000) :
  ∃ (G : Nat) (C Z : List Value), l.length + 1 <= G /\ G <= maxLen /\ i * 2 + Z.length = G * 2 /\ C = (l.take i).flatMap ePair.cells ++ Z /\ ∀ ty, (Builtin.append_ #[37, 3] ty #[.slice (some ⟨g, 0, none⟩) i c, .int .i64 ((l.length : Int) + 1 - (i : Int))]).run Tryz.prog w =
   .ok (.slice (some ⟨w.heap.size, 0, none⟩) (l.length + 1) G) (w.drew.alloc (.cells C.toArray 141)) := by
 obtain ⟨i0, z0, hu, hinfo, hzero, hsize, hbytes, hzs, _⟩ := row_pair
 have hes : ePair.size = 2 := rfl
 rw [hes] at hsize hzs
 have hft := flat_take ePair l i (by omega)
 rw [hes] at hft
 have hold : (Builtin.firstCells i0.size i (.slice (some ⟨g, 0, none⟩) i c)).run Tryz.prog w.drew = .ok ((l.take i).flatMap ePair.cells).toArray w.drew := by
  rw [hsize]
  refine run_firstCells_some w.drew 2 i ⟨g, 0, none⟩ i c _ (by rw [flat_len, List.length_take, Nat.min_eq_left (by omega)]; rfl) fun j v hj => ?_
  rw [add_lit, Nat.zero_add]
  show w.cell? _ = _
  have h1 := (List.getElem?_eq_some_iff.1 hj).1
  rw [flat_len, List.length_take, Nat.min_eq_left (by omega), hes] at h1
  rw [hbk.cell, <- hj, <- hft, <- htk, List.getElem?_take, if_pos h1, List.getElem?_take, if_pos (by omega)]
 have hkk : (l.length : Int) + 1 - (i : Int) = ((l.length + 1 - i : Nat) : Int) := by omega
 have hik : i + (l.length + 1 - i) = l.length + 1 := by omega
 have hG := grownCap_ge w (l.length + 1) c 141
 have hG2 := grownCap_le_maxLen w (l.length + 1) c 141 (by unfold maxLen; omega)
 refine ⟨grownCap w (l.length + 1) c 141, _, (Builtin.zeroCells z0.cells (l.length + 1 - i)).toList ++ (Builtin.zeroCells z0.cells (grownCap w (l.length + 1) c 141 - (l.length + 1))).toList, hG, hG2, ?_, rfl, fun ty => ?_⟩
 ·simp only [List.length_append, Array.length_toList, size_zeroCells, hzs]; omega
 ·have h := Lib.run_append_grow_zeros w 37 3 ty 141 i0 z0 .i64 .i64 hu Tryz.underlying3 hinfo hzero (some ⟨g, 0, none⟩) i c _ hold (l.length + 1 - i) (by omega) (by omega) (by omega) (by omega) (by rw [hbytes]; omega) (by rw [hbytes, hik]; exact growslice_fits hroom (by omega))
  rw [hik] at h
  rw [hkk, h]
  congr 3
  simp
theorem insertPair_any (l : List IP) (x : IP) (i : Nat) (v : Value) (h B : Nat) (w : World) (ho : OW w B 141 ePair v l) (hx : AR w h 141 ePair [x]) (hne : v.ownBlock ≠ some h) (hi : i <= l.length) (hn : l.length <= 1000) (hB : B <= w.heap.size) :
  Calls Tryz.prog 156 #[v, .int .i64 (i : Int), .slice (some ⟨h, 0, none⟩) 1 1] w (OPost B 141 (l.take i ++ [x] ++ l.drop i) v w) := by
 have HX := hide hx
 have hz1 : ¬ ((1 : Int) = 0) := by omega
 by_cases hin : i = l.length
 ·-- at the end
  subst hin
  have hl' : Hid (l.take l.length ++ [x] ++ l.drop l.length = l ++ [x]) := hide (by simp)
  have HO := hide ho
  have HM1 : Hid ((l.length + [x].length) * 16 <= 140737488355328) := hide (by simp; omega)
  have HM2 : Hid (l.length + [x].length <= maxLen) := hide (by simp [maxLen]; omega)
  have HB := hide hB
  have HRX := hide (hx.rd (by simp [maxLen]))
  obtain ⟨A, c, rfl, hc, hm, hA, _⟩ := ho.rd
  have hm' : c <= 9223372036854775807 := by unfold maxLen at hm; omega
  clear ho hx hB hne hm
  cases A with
  | none =>
   have hc0 : c = 0 := hA rfl
   have hl0 : l = [] := List.eq_nil_of_length_eq_zero (by omega)
   subst hl0
   subst hc0
   clear hA
   simp only [List.length_nil] at HO ⊢
   go_enter Tryz.func156, Tryz.ntmps156
   go_wp2_with (at_builtin; (with_reducible refine list_app (B := B) (l := ([] : List IP)) (m := [x]) row_pair (.slice none 0 0) ?_ (.tmp 23) (.tmp 24) ?_ ?_ ?_ ?_ HM1.out HM2.out ?_ ?_); (with_reducible rfl); (with_reducible rfl); rfl; (exact HO.out); (show RD _ _ (.slice (some ⟨h, 0, none⟩) 1 1) _; exact HRX.out); (exact HB.out); intro v3 w3 ho3 hg3 hat3)
   go_ret
   exact ⟨_, rfl, ho3, hg3, hat3.imp id (fun h => ⟨_, h, Nat.le_refl _⟩)⟩
  | some a =>
   obtain ⟨ab, ao, asp⟩ := a
   obtain ⟨A2, hif⟩ : ∃ A2, (if c = l.length then some (⟨ab, ao, asp⟩ : Addr) else some ((⟨ab, ao, asp⟩ : Addr).add (l.length * 2))) = A2 := ⟨_, rfl⟩
   clear hA
   go_enter Tryz.func156, Tryz.ntmps156
   go_wp2_with (at_builtin; (with_reducible refine list_app (B := B) (l := l) (m := [x]) row_pair (.slice (some ⟨ab, ao, asp⟩) l.length c) ?_ (.tmp 23) (.tmp 24) ?_ ?_ ?_ ?_ HM1.out HM2.out ?_ ?_); (with_reducible rfl); (with_reducible rfl); rfl; (exact HO.out); (show RD _ _ (.slice (some ⟨h, 0, none⟩) 1 1) _; exact HRX.out); (exact HB.out); intro v3 w3 ho3 hg3 hat3)
   all_goals
    go_ret
    exact ⟨_, rfl, by rw [hl'.out]; exact ho3, hg3, hat3.imp id (fun h => ⟨_, h, Nat.le_refl _⟩)⟩
 ·have hlt : i < l.length := by omega
  obtain ⟨g, c, rfl, hBg, hgw, hc, hc63⟩ := ho.shape (by omega)
  obtain ⟨cur, hbk, _, _, hcm, hcl, htk, _⟩ := BK.of_ow ho
  have hes : ePair.size = 2 := rfl
  rw [hes] at hcl htk
  have hgh : h ≠ g := fun e => hne (by rw [e]; rfl)
  obtain ⟨i0, z0, hu, hinfo, hzero, hsize, hbytes, hzs, _⟩ := row_pair
  rw [hes] at hsize hzs
  have hxs : ∀ j v, (ePair.cells x)[j]? = some v -> w.cell? ((⟨h, 0, none⟩ : Addr).add j) = some v := fun j v hj => by
   rw [add_lit, Nat.zero_add]
   have h1 : j < 2 := (List.getElem?_eq_some_iff.1 hj).1
   have := hx.cell 0 (by simp) j h1
   rw [Nat.zero_mul, Nat.zero_add] at this
   rw [this, <- hj]
   rfl
  have h1x : ∀ v ∈ ePair.cells x, v.oneCell' = true := ePair.one x
  have h1d : ∀ v ∈ (l.drop i).flatMap ePair.cells, v.oneCell' = true := flat_one ePair _
  have hdl : ((l.drop i).flatMap ePair.cells).length = (l.length - i) * 2 := by rw [flat_len, List.length_drop]; rfl
  have hwn : IntKind.i64.wrap ((l.length : Int) + 1) = (l.length : Int) + 1 := IntWalk.i64_in _ (by omega)
  have hwi : IntKind.i64.wrap ((i : Int) + 1) = (i : Int) + 1 := IntWalk.i64_in _ (by omega)
  have tni : ((i : Int) + 1).toNat = i + 1 := by omega
  have tnn : ((l.length : Int) + 1).toNat = l.length + 1 := by omega
  have hnei : ¬ ((i : Int) = (l.length : Int)) := by omega
  have hnei' : ((i : Int) == (l.length : Int)) = false := by simp; omega
  have hci : ¬ (c = i) := by omega
  have bi1 : (i : Int) < (l.length : Int) := by omega
  have bi0 : (0 : Int) <= (i : Int) + 1 := by omega
  have bn0 : (0 : Int) <= (l.length : Int) + 1 := by omega
  have bi2 : (i : Int) <= (l.length : Int) + 1 := by omega
  have bi3 : (i : Int) + 1 <= (l.length : Int) + 1 := by omega
  by_cases hroom : l.length + 1 <= c
  ·-- there is room
   have hov : ∀ lb cb, (callFunc 186 #[.slice (some ⟨h, 0, none⟩) 1 1, .slice (some ⟨g, (i + 1) * 2, none⟩) lb cb]).run Tryz.prog w = .ok (.value (.bool false)) w := fun lb cb => by
    rw [run_callFunc_extern Tryz.func186 (by kernel_rfl) (by kernel_rfl) (by kernel_rfl) (e := Extern.SlicesOverlaps.overlaps #[37, 37] #[4]) (by kernel_rfl),
     Lib.run_overlaps_apart w 37 4 141 hu 2 (fun w => by simp [sizeOf, typeInfo, hinfo, hsize]) ⟨h, 0, none⟩ ⟨g, (i + 1) * 2, none⟩ 1 1 lb cb hgh 141 141 2 (c * 2)
      (by have h3 := hx; unfold AR at h3; simp [World.shape?, h3, ePair]) (by have h3 := hbk; unfold BK at h3; simp [World.shape?, h3, hcl]) (by omega) (hx.frozen _) (hx.frozen _)]
    rfl
   have hcp1 : ∀ ty dc sc, (Builtin.copy_ #[37, 37] ty #[.slice (some ⟨g, (i + 1) * 2, none⟩) (l.length - i) dc, .slice (some ⟨g, i * 2, none⟩) (l.length + 1 - i) sc]).run Tryz.prog w.drew =
     .ok (goInt (Nat.min (l.length + 1 - i) (l.length - i))) (w.drew.setRow g (splice cur ((i + 1) * 2) ((l.drop i).flatMap ePair.cells)).toArray) := fun ty dc sc =>
    run_copyK hinfo hu ((i + 1) * 2) _ dc ⟨g, i * 2, none⟩ _ sc (w := w.drew) (t := 141) hbk (by rw [hdl, hsize]; simp only [Nat.min_def]; split <;> omega)
     (fun j v hj => by rw [add_lit]; exact cells_drop (E := ePair) hbk htk i (by omega) j v hj) (by omega) h1d
   obtain ⟨cur1, hcur1⟩ : ∃ cur1, cur1 = splice cur ((i + 1) * 2) ((l.drop i).flatMap ePair.cells) := ⟨_, rfl⟩
   have hcl1 : cur1.length = c * 2 := by rw [hcur1, splice_len _ _ _ (by omega)]; exact hcl
   rw [<- hcur1] at hcp1
   have hcp2 : ∀ W, BK W g 141 cur1 -> (∀ j v, (ePair.cells x)[j]? = some v -> W.cell? ((⟨h, 0, none⟩ : Addr).add j) = some v) -> ∀ ty dc, (Builtin.copy_ #[37, 37] ty #[.slice (some ⟨g, i * 2, none⟩) (l.length + 1 - i) dc, .slice (some ⟨h, 0, none⟩) 1 1]).run Tryz.prog W =
     .ok (goInt (Nat.min 1 (l.length + 1 - i))) (W.setRow g (splice cur1 (i * 2) (ePair.cells x)).toArray) := fun W hb hxs ty dc =>
    run_copyK hinfo hu (i * 2) _ dc ⟨h, 0, none⟩ 1 1 hb (by rw [hsize, show Nat.min 1 (l.length + 1 - i) = 1 from by simp only [Nat.min_def]; split <;> omega]; rfl) hxs (by rw [hcl1]; show i * 2 + 2 <= _; omega) h1x
   have HBK := hide hbk
   have HFIN := hide (insert_take cur l x i c hlt hroom hcl htk)
   rw [<- hcur1] at HFIN
   have HCL1 := hide hcl1
   have HXS := hide hxs
   have HCP1 := hide hcp1
   have HCP2 := hide hcp2
   have HBg := hide hBg
   have HCM := hide hcm
   have HX2 := hide hgh
   have bnr : (l.length : Int) + 1 <= (c : Int) := by omega
   have bci : ¬ (c = i + 1) := by omega
   clear hcp1 hcp2 hcur1 hcl1 hbk htk hcl hxs hx hinfo hzero hsize hbytes hzs h1x h1d hdl hB ho hne
   go_enter Tryz.func156, Tryz.ntmps156
   go_wp2_with (simp only [hov])
   go_region_law (refine step_copy rfl (.tmp 73) (.tmp 76) rfl (.slice (some ⟨g, (i + 1) * 2, none⟩) (l.length - i) (c - (i + 1))) (.slice (some ⟨g, i * 2, none⟩) (l.length + 1 - i) (c - i)) (by simp [Act.eval, Act.put]) (by simp [Act.eval, Act.put]) (w := w.drew) HBK.out (fun ty => HCP1.out ty _ _) ?_; intro w2 hb2 hk2)
   have hk2' : Kg g w w2 := (Kg.of (Kp.refl w).drew).trans hk2
   have HXS2 : Hid (∀ j v, (ePair.cells x)[j]? = some v -> w2.cell? ((⟨h, 0, none⟩ : Addr).add j) = some v) := hide (fun j v hj => by
    rw [<- HXS.out j v hj, add_lit]
    exact World.cell?_of_block (hk2'.block HX.out.lt HX2.out))
   go_wp2_with ((with_reducible refine list_copy ?_ (.tmp 80) (.tmp 81) ?_ (.slice (some ⟨g, i * 2, none⟩) (l.length + 1 - i) (c - i)) (.slice (some ⟨h, 0, none⟩) 1 1) ?_ ?_ hb2.out (fun ty => HCP2.out _ hb2.out HXS2.out ty (c - i)) ?_); (with_reducible rfl); (with_reducible rfl); rfl; rfl; intro w3 hb3 hk3)
   go_ret
   have hll : (l.take i ++ [x] ++ l.drop i).length = l.length + 1 := by simp; omega
   refine ⟨_, rfl, ?_, (show w.grownBy w3 (some g) from hk2'.trans hk3), .inl rfl⟩
   rw [<- hll]
   exact BK.ow (E := ePair) hb3.out HBg.out (by omega) HCM.out (by
    have h9 := HCL1.out
    rw [splice_len _ _ _ (by rw [h9]; show i * 2 + 2 <= _; omega), h9]; rfl) HFIN.out
  ·-- no room: a new block
   obtain ⟨G, C, Z, hG1, hG2, hZ, hC, hrz⟩ := grow_zeros l i g c w hbk htk hlt hc (by omega) hn
   have hG3 : G <= 9223372036854775807 := by unfold maxLen at hG2; omega
   have hCl : C.length = G * 2 := by rw [hC, List.length_append, flat_len, List.length_take, Nat.min_eq_left (by omega), hes]; exact hZ
   have HFIN := hide (insert_new cur Z l x i c G hlt hG1 hZ)
   rw [<- hC] at HFIN
   have hcpA : ∀ W, BK W w.heap.size 141 C -> (∀ j v, (ePair.cells x)[j]? = some v -> W.cell? ((⟨h, 0, none⟩ : Addr).add j) = some v) -> ∀ ty dc, (Builtin.copy_ #[37, 37] ty #[.slice (some ⟨w.heap.size, i * 2, none⟩) (l.length + 1 - i) dc, .slice (some ⟨h, 0, none⟩) 1 1]).run Tryz.prog W =
     .ok (goInt (Nat.min 1 (l.length + 1 - i))) (W.setRow w.heap.size (splice C (i * 2) (ePair.cells x)).toArray) := fun W hb hxs ty dc =>
    run_copyK hinfo hu (i * 2) _ dc ⟨h, 0, none⟩ 1 1 hb (by rw [hsize, show Nat.min 1 (l.length + 1 - i) = 1 from by simp only [Nat.min_def]; split <;> omega]; rfl) hxs (by rw [hCl]; show i * 2 + 2 <= _; omega) h1x
   obtain ⟨C1, hC1⟩ : ∃ C1, C1 = splice C (i * 2) (ePair.cells x) := ⟨_, rfl⟩
   have hC1l : C1.length = G * 2 := by rw [hC1, splice_len _ _ _ (by rw [hCl]; show i * 2 + 2 <= _; omega)]; exact hCl
   rw [<- hC1] at hcpA HFIN
   have hcpB : ∀ W, BK W w.heap.size 141 C1 -> BK W g 141 cur -> ∀ ty dc sc, (Builtin.copy_ #[37, 37] ty #[.slice (some ⟨w.heap.size, (i + 1) * 2, none⟩) (l.length - i) dc, .slice (some ⟨g, i * 2, none⟩) (l.length - i) sc]).run Tryz.prog W =
     .ok (goInt (Nat.min (l.length - i) (l.length - i))) (W.setRow w.heap.size (splice C1 ((i + 1) * 2) ((l.drop i).flatMap ePair.cells)).toArray) := fun W hb hbg ty dc sc =>
    run_copyK hinfo hu ((i + 1) * 2) _ dc ⟨g, i * 2, none⟩ _ sc hb (by rw [hdl, hsize]; simp only [Nat.min_def]; split <;> omega)
     (fun j v hj => by rw [add_lit]; exact cells_drop (E := ePair) hbg htk i (by omega) j v hj) (by omega) h1d
   have HBK := hide hbk
   have HXS := hide hxs
   have HCA := hide hcpA
   have HCB := hide hcpB
   have HBg := hide hBg
   have HX2 := hide hgh
   have HG2 := hide hG2
   have HC1L := hide hC1l
   have HB := hide hB
   have HN : Hid (g ≠ w.heap.size) := hide (by omega)
   have HNEW : Hid (BK (w.drew.alloc (.cells C.toArray 141)) w.heap.size 141 C) := hide (heap_alloc_new w.drew _)
   have bnr : (c : Int) < (l.length : Int) + 1 := by omega
   have bG1 : ¬ (G = i) := by omega
   have bG2 : ¬ (G = i + 1) := by omega
   have bG3 : (l.length : Int) + 1 <= (G : Int) := by omega
   have bw1 : IntKind.i64.wrap ((l.length : Int) + 1 - (i : Int)) = (l.length : Int) + 1 - (i : Int) := IntWalk.i64_in _ (by omega)
   have K1 : Hid (Kp w (w.drew.alloc (.cells C.toArray 141))) := hide (Kp.refl w).drew.alloc
   obtain ⟨W1, hW1⟩ : ∃ W1, W1 = w.drew.alloc (.cells C.toArray 141) := ⟨_, rfl⟩
   rw [<- hW1] at hrz K1 HNEW
   have HXS1 : Hid (∀ j v, (ePair.cells x)[j]? = some v -> W1.cell? ((⟨h, 0, none⟩ : Addr).add j) = some v) := hide (fun j v hj => by
    rw [<- HXS.out j v hj, add_lit]
    exact World.cell?_of_block (K1.out.bel.block _ HX.out.lt))
   have HBK1 := hide (HBK.out.kp K1.out)
   clear hcpA hcpB hC hC1 hC1l hCl hbk htk hcl hxs hx hinfo hzero hsize hbytes hzs h1x h1d hdl hB ho hne hW1 hroom hgw
   go_enter Tryz.func156, Tryz.ntmps156
   go_wp2_with (first
    | (at_builtin; (with_reducible refine Lib.wpList_append_run _ ?_ (.tmp 34) (.tmp 39) _ _ ?_ (.slice (some ⟨g, 0, none⟩) i c) (.int .i64 ((l.length : Int) + 1 - (i : Int))) ?_ ?_ _ _ (hrz _) ?_); (with_reducible rfl); (with_reducible rfl); rfl; rfl)
    | ((with_reducible refine list_copy ?_ (.tmp 43) (.tmp 44) ?_ (.slice (some ⟨w.heap.size, i * 2, none⟩) (l.length + 1 - i) (G - i)) (.slice (some ⟨h, 0, none⟩) 1 1) ?_ ?_ HNEW.out (fun ty => HCA.out _ HNEW.out HXS1.out ty (G - i)) ?_); (with_reducible rfl); (with_reducible rfl); rfl; rfl; intro w2 hb2 hk2))
   have hbk2 := hide (HBK1.out.kg HN.out hk2)
   go_region_law (refine step_copy rfl (.tmp 50) (.tmp 53) rfl (.slice (some ⟨w.heap.size, (i + 1) * 2, none⟩) (l.length - i) (G - (i + 1))) (.slice (some ⟨g, i * 2, none⟩) (l.length - i) (c - i)) (by simp [Act.eval, Act.put]) (by simp [Act.eval, Act.put]) (w := w2.drew) hb2.out (fun ty => HCB.out w2.drew hb2.out hbk2.out ty _ _) ?_; intro w3 hb3 hk3)
   go_wp2
   go_ret
   have hll : (l.take i ++ [x] ++ l.drop i).length = l.length + 1 := by simp; omega
   have hk23 : Kg w.heap.size W1 w3 := (hk2.trans (Kg.of (Kp.refl w2).drew)).trans hk3
   have hkw : Kp w w3 := hk23.kp K1.out (Nat.le_refl _)
   refine ⟨_, rfl, ?_, (show w.grownBy w3 (some g) from Kg.of hkw), .inr ⟨w.heap.size, rfl, Nat.le_refl _⟩⟩
   rw [<- hll]
   exact BK.ow (E := ePair) hb3.out HB.out (by omega) HG2.out (by
    have h9 := HC1L.out
    rw [splice_len _ _ _ (by rw [h9, flat_len, List.length_drop]; show (i + 1) * 2 + (l.length - i) * 2 <= _; omega), h9]; rfl) HFIN.out
theorem delete_take (cur cs : List Value) (l : List IP) (i c : Nat) (hi : i < l.length) (hc : l.length <= c) (hl : cur.length = c * 2) (ht : cur.take (l.length * 2) = l.flatMap ePair.cells) (hcs : cs.length = 2) :
  (splice (splice cur (i * 2) ((l.drop (i + 1)).flatMap ePair.cells)) ((l.length - 1) * 2) cs).take ((l.take i ++ l.drop (i + 1)).length * 2) = (l.take i ++ l.drop (i + 1)).flatMap ePair.cells := by
 have hdl : ((l.drop (i + 1)).flatMap ePair.cells).length = (l.length - (i + 1)) * 2 := by rw [flat_len, List.length_drop]; rfl
 have hll : (l.take i ++ l.drop (i + 1)).length = l.length - 1 := by simp; omega
 have hs1 := splice_len cur (i * 2) ((l.drop (i + 1)).flatMap ePair.cells) (by omega)
 have hft : (l.take i).flatMap ePair.cells = cur.take (i * 2) := by
  have h1 := flat_take ePair l i (by omega)
  have h2 : ePair.size = 2 := rfl
  rw [h2] at h1
  rw [<- h1, <- ht, List.take_take, Nat.min_eq_left (by omega)]
 rw [hll]
 apply List.ext_getElem?
 intro j
 rw [List.getElem?_take]
 by_cases hj : j < (l.length - 1) * 2
 ·rw [if_pos hj, splice_at _ _ _ (by omega), if_pos hj, splice_at _ _ _ (by omega), List.flatMap_append, hft]
  have htl : (cur.take (i * 2)).length = i * 2 := by simp; omega
  by_cases h1 : j < i * 2
  ·rw [if_pos h1, List.getElem?_append_left (by omega), List.getElem?_take, if_pos h1]
  ·rw [if_neg h1, if_pos (by omega), List.getElem?_append_right (by omega), htl]
 ·rw [if_neg hj, List.getElem?_eq_none]
  rw [flat_len, hll]
  exact Nat.le_of_not_lt hj
theorem deletePair_any (l : List IP) (i : Nat) (v : Value) (B : Nat) (w : World) (ho : OW w B 141 ePair v l) (hi : i < l.length) (hn : l.length <= 1000) :
  Calls Tryz.prog 111 #[v, .int .i64 (i : Int), .int .i64 ((i : Int) + 1)] w (OPost B 141 (l.take i ++ l.drop (i + 1)) v w) := by
 obtain ⟨g, c, rfl, hBg, hgw, hc, hc63⟩ := ho.shape (by omega)
 obtain ⟨cur, hbk, _, _, hcm, hcl, htk, _⟩ := BK.of_ow ho
 have hes : ePair.size = 2 := rfl
 rw [hes] at hcl htk
 obtain ⟨i0, z0, hu, hinfo, hzero, hsize, hbytes, hzs, _⟩ := row_pair
 rw [hes] at hsize hzs
 have hz0 : z0.cells.toList = ePair.cells (0, 0) := zero_pair i0 z0 hinfo hzero
 have h1d : ∀ v ∈ (l.drop (i + 1)).flatMap ePair.cells, v.oneCell' = true := flat_one ePair _
 have hdl : ((l.drop (i + 1)).flatMap ePair.cells).length = (l.length - (i + 1)) * 2 := by rw [flat_len, List.length_drop]; rfl
 have hfit1 : i * i0.size + ((l.drop (i + 1)).flatMap ePair.cells).length <= cur.length := by rw [hsize, hdl]; omega
 obtain ⟨A2, hif⟩ : ∃ A2 : Addr, (if c = i + 1 then some (⟨g, 0, none⟩ : Addr) else some ⟨g, (i + 1) * 2, none⟩) = some A2 := by
  by_cases h : c = i + 1
  ·exact ⟨_, by rw [if_pos h]⟩
  ·exact ⟨_, by rw [if_neg h]⟩
 have hsrc : ∀ j v, ((l.drop (i + 1)).flatMap ePair.cells)[j]? = some v -> w.cell? (A2.add j) = some v := fun j v hj => by
  by_cases h : c = i + 1
  ·have : (l.drop (i + 1)) = [] := List.drop_of_length_le (by omega)
   rw [this] at hj; simp at hj
  ·rw [if_neg h] at hif
   injection hif with hif
   subst hif
   rw [add_lit]
   exact cells_drop (E := ePair) hbk htk (i + 1) (by omega) j v hj
 have hap : ∀ ty, (Builtin.append_ #[37, 37] ty #[.slice (some ⟨g, 0, none⟩) i c, .slice (some A2) (l.length - (i + 1)) (c - (i + 1))]).run Tryz.prog w.drew = .ok (.slice (some ⟨g, 0, none⟩) (l.length - 1) c) (w.drew.setRow g (splice cur (i * 2) ((l.drop (i + 1)).flatMap ePair.cells)).toArray) := fun ty => by
  have h := run_appendK (P := Tryz.prog) (w := w.drew) (ty := ty) hinfo hu hu i c A2 (l.length - (i + 1)) (c - (i + 1)) (t := 141) hbk (by rw [hdl, hsize]) (by omega) hsrc hfit1 h1d
  rw [hsize, show i + (l.length - (i + 1)) = l.length - 1 from by omega] at h
  exact h
 obtain ⟨cur1, hcur1⟩ : ∃ cur1, cur1 = splice cur (i * 2) ((l.drop (i + 1)).flatMap ePair.cells) := ⟨_, rfl⟩
 have hcl1 : cur1.length = c * 2 := by rw [hcur1, splice_len _ _ _ (by rw [hdl]; omega)]; exact hcl
 have hzl : (Builtin.zeroCells z0.cells 1).toList.length = 2 := by rw [Array.length_toList, size_zeroCells, hzs]
 have hz1c : ∀ v ∈ (Builtin.zeroCells z0.cells 1).toList, v.oneCell' = true := by
  have e : (Builtin.zeroCells z0.cells 1).toList = ePair.cells (0, 0) := by
   have h2 : z0.cells = #[.int .i64 0, .int .i64 0] := by
    have h3 : z0.cells.toList = [.int .i64 0, .int .i64 0] := hz0
    rw [<- Array.toArray_toList (xs := z0.cells), h3]
   rw [h2]; simp [Builtin.zeroCells, ePair, Array.range, Array.ofFn_succ]
  rw [e]; exact ePair.one _
 have HFIN := hide (delete_take cur (Builtin.zeroCells z0.cells 1).toList l i c hi hc hcl htk hzl)
 rw [<- hcur1] at hap HFIN
 have hcp : ∀ W, BK W g 141 cur1 -> ∀ ty cc, (Builtin.clear_ #[37] ty #[.slice (some ⟨g, (l.length - 1) * 2, none⟩) 1 cc]).run Tryz.prog W = .ok (.tuple #[]) (W.setRow g (splice cur1 ((l.length - 1) * 2) (Builtin.zeroCells z0.cells 1).toList).toArray) := fun W hb ty cc =>
  run_clearK hinfo hzero hu ((l.length - 1) * 2) 1 cc (by omega) hb (by rw [hzs, hsize]) (by rw [hcl1, hsize]; omega) hz1c
 have hll : (l.take i ++ l.drop (i + 1)).length = l.length - 1 := by simp; omega
 have HLL := hide hll
 have HAP := hide hap
 have HCP := hide hcp
 have HBK := hide hbk
 have HBg := hide hBg
 have HCM := hide hcm
 have HCL1 := hide hcl1
 have HZL := hide hzl
 have HLC : Hid (l.length <= c) := hide hc
 obtain ⟨k, hk⟩ : ∃ k, l.length = k + 1 := ⟨l.length - 1, by omega⟩
 have HK := hide hk
 rw [hk, Nat.add_sub_cancel, Nat.add_sub_add_right] at HAP
 rw [hk, Nat.add_sub_cancel] at HCP HLL
 rw [hk] at hi hc hn ⊢
 have hwi : IntKind.i64.wrap ((i : Int) + 1) = (i : Int) + 1 := IntWalk.i64_in _ (by omega)
 have tni : ((i : Int) + 1).toNat = i + 1 := by omega
 have hnei' : ((i : Int) == (i : Int) + 1) = false := by simp; omega
 have bi0 : (0 : Int) <= (i : Int) + 1 := by omega
 have bi1 : (i : Int) <= (i : Int) + 1 := by omega
 have bi2 : (i : Int) + 1 <= (k : Int) + 1 := by omega
 have bi3 : (i : Int) + 1 <= (c : Int) := by omega
 have bi4 : (i : Int) <= (c : Int) := by omega
 have bck : ¬ (c = k) := by omega
 have bkc : (k : Int) + 1 <= (c : Int) := by omega
 have bi5 : (i : Int) <= (k : Int) + 1 := by omega
 clear hap hcp hcur1 hcl1 hbk htk hcl hinfo hzero hsize hbytes hzs h1d hdl hfit1 hsrc hz0 hzl hz1c ho hgw hcm hk hll
 go_enter Tryz.func111, Tryz.ntmps111
 go_wp2_with fail
 go_region_law (refine step_appK rfl (.tmp 22) (.tmp 25) rfl (.slice (some ⟨g, 0, none⟩) i c) (.slice (some A2) (k - i) (c - (i + 1))) (.slice (some ⟨g, 0, none⟩) k c) (by simp [Act.eval, Act.put]) (by simp [Act.eval, Act.put]) (w := w.drew) HBK.out (fun ty => HAP.out ty) ?_; intro w2 hb2 hk2)
 have hk2' : Kg g w w2 := (Kg.of (Kp.refl w).drew).trans hk2
 go_wp2_with ((with_reducible refine list_clear ?_ (.tmp 31) ?_ (.slice (some ⟨g, k * 2, none⟩) 1 (c - k)) ?_ hb2.out (fun ty => HCP.out _ hb2.out ty (c - k)) ?_); (with_reducible rfl); (with_reducible rfl); rfl; intro w3 hb3 hk3)
 go_ret
 refine ⟨_, rfl, ?_, (show w.grownBy w3 (some g) from hk2'.trans hk3), .inl rfl⟩
 rw [<- HLL.out]
 have h9 := HCL1.out
 have h8 := HZL.out
 have h7 := HK.out
 exact BK.ow (E := ePair) hb3.out HBg.out (by rw [HLL.out]; omega) HCM.out (by
  rw [splice_len _ _ _ (by rw [h9, h8]; omega), h9]; rfl) (by rw [<- show l.length - 1 = k from by omega]; exact HFIN.out)
def toldL (l : List IP) (at_ : Int) : An := if h : 0 <= at_ /\ at_ < l.length then ⟨0, (l[at_.toNat]'(by omega)).1, (l[at_.toNat]'(by omega)).2, true⟩ else ⟨0, 0, 0, false⟩
theorem toldL_no (l : List IP) (at_ : Int) (h : ¬ (0 <= at_ /\ at_ < l.length)) : toldL l at_ = ⟨0, 0, 0, false⟩ := by rw [toldL, dif_neg h]
theorem toldL_at (l : List IP) (k : Nat) (h : k < l.length) : toldL l (k : Int) = ⟨0, l[k].1, l[k].2, true⟩ := by
 rw [toldL, dif_pos (by omega)]; rfl
theorem told_any (l : List IP) (v : Value) (at_ : Int) (w : World) (hr : RD w ePair v l) (hn : l.length <= 1000) : Calls Tryz.prog 112 #[v, .int .i64 at_] w (Ret (toldL l at_).v w) := by
 obtain ⟨A, c, rfl, hc, hm⟩ := hr.shape
 have HR := hide hr
 clear hr
 have hw : IntKind.i64.wrap ((l.length : Int) - 1) = (l.length : Int) - 1 := IntWalk.i64_in _ (by omega)
 by_cases hin : 0 <= at_ /\ at_ < l.length
 ·obtain ⟨k, rfl⟩ : ∃ k : Nat, at_ = k := ⟨at_.toNat, by omega⟩
  have hk : k < l.length := by omega
  have HT := hide (toldL_at l k hk)
  obtain ⟨b, o, rfl, _, c0, c1⟩ := HR.out.pair hk
  have hb : btw (k : Int) 0 ((l.length : Int) - 1) = true := (btw_iff _ _ _).2 (by omega)
  have b1 : (k : Int) < (l.length : Int) := by omega
  have b0 : (0 : Int) <= (k : Int) := by omega
  have d0 : (w.alloc (.cells #[.int .i64 0, .int .i64 0, .int .i64 0, .bool false] 84)).cell? ⟨b, o + k * 2, none⟩ = some (.int .i64 l[k].1) := (Kp.refl w).alloc.cell c0
  have HB := hide hb
  clear hin hb
  go_enter Tryz.func112, Tryz.ntmps112
  go_wp2_with (go_at_call 108; refine (within_to _ _ _ true _ HB.out).mono ?_; rintro e w' ⟨rfl, rfl⟩)
  go_region_held3 (fun w' => w'.cell? ⟨b, o + k * 2, none⟩ = some (.int .i64 l[k].1) /\ w'.cell? ⟨b, o + k * 2 + 1, none⟩ = some (.int .i64 l[k].2))
   (first | go_keep | fail)
   (fail)
  go_wp2
  refine bodyPost_ret (v := (⟨0, l[k].1, l[k].2, true⟩ : An).v) (by simp [results, Tryz.results112, go_sem, An.v]) rfl ⟨by rw [HT.out], ?_⟩
  exact Kp.bel (by (exact Kp.auto))
 ·have HT := hide (toldL_no l at_ hin)
  have hb : btw at_ 0 ((l.length : Int) - 1) = false := (btw_f_iff _ _ _).2 (by omega)
  have HB := hide hb
  clear hin hb
  go_enter Tryz.func112, Tryz.ntmps112
  go_wp2_with (go_at_call 108; refine (within_to _ _ _ false _ HB.out).mono ?_; rintro e w' ⟨rfl, rfl⟩)
  refine bodyPost_ret (v := (⟨0, 0, 0, false⟩ : An).v) (by simp [results, Tryz.results112, go_sem, An.v]) rfl ⟨by rw [HT.out], ?_⟩
  exact Kp.bel (by (exact Kp.auto))
def putL (l : List IP) (key val : Int) : List IP × An :=
 if hasKey l key then (l.set (below l key) (key, val), ⟨0, 0, 0, true⟩)
 else if l.length = 200 then (l, ⟨2, 0, 0, false⟩)
 else (l.take (below l key) ++ [(key, val)] ++ l.drop (below l key), ⟨0, 0, 0, false⟩)
def PutPost (w0 : World) (r : List IP × An) (e : Ending) (w' : World) : Prop := ∃ v', e = .returned (.tuple #[v', r.2.v]) /\ OW w' w0.heap.size 141 ePair v' r.1 /\ Kp w0 w'
theorem put_any (l : List IP) (key val : Int) (v : Value) (w0 w : World) (ho : OW w w0.heap.size 141 ePair v l) (hk0 : Kp w0 w) (hs : Rise l) (hn : l.length <= 200) :
  Calls Tryz.prog 110 #[v, .agg #[.int .i64 key, .int .i64 val]] w (PutPost w0 (putL l key val)) := by
 have hble := below_le l key
 have HSZ := hk0.size
 have HF := hide (fun W v h => find_any l v key W h (by omega) hs)
 obtain ⟨A, c, rfl, hc, hm⟩ := ho.rd.shape
 have hhi := ho.hi
 have HO := hide ho
 have HS := hide hs
 obtain ⟨W1, hW1⟩ : ∃ W1, W1 = (w.alloc (.cells #[.int .i64 key, .int .i64 val] 141)).alloc (.cells #[.int .i64 0, .int .i64 0, .int .i64 0, .bool false] 84) := ⟨_, rfl⟩
 have hk1 : Kp w W1 := by rw [hW1]; exact (Kp.refl w).alloc.alloc
 have hz1 : W1.heap.size = w.heap.size + 2 := by rw [hW1]; simp
 have q0 : W1.cell? ⟨w.heap.size, 0, none⟩ = some (.int .i64 key) := by rw [hW1]; simp [go_sem]
 have q1 : W1.cell? ⟨w.heap.size, 1, none⟩ = some (.int .i64 val) := by rw [hW1]; simp [go_sem]
 have r0 : W1.cell? ⟨w.heap.size + 1, 0, none⟩ = some (.int .i64 0) := by rw [hW1]; simp [go_sem]
 have r1 : W1.cell? ⟨w.heap.size + 1, 1, none⟩ = some (.int .i64 0) := by rw [hW1]; simp [go_sem]
 have r2 : W1.cell? ⟨w.heap.size + 1, 2, none⟩ = some (.int .i64 0) := by rw [hW1]; simp [go_sem]
 have r3 : W1.cell? ⟨w.heap.size + 1, 3, none⟩ = some (.bool false) := by rw [hW1]; simp [go_sem]
 have g0 : ∀ j, W1.frozen? ⟨w.heap.size + 1, j, none⟩ = false := fun j => by rw [hW1]; simp [go_sem]
 have HK1 := hide hk1
 have HQ0 := hide q0
 have HQ1 := hide q1
 have HR0 := hide r0
 have HR1 := hide r1
 have HR2 := hide r2
 have HR3 := hide r3
 have HG0 := hide g0
 have HZ1 := hide hz1
 have HK0 := hide hk0
 have HW1 := hide hW1
 have HHI := hide hhi
 clear ho hs hk1 q0 q1 r0 r1 r2 r3 g0 hz1 hk0 hhi hW1
 obtain ⟨b, hbe⟩ : ∃ b, b = below l key := ⟨_, rfl⟩
 cases hh : hasKey l key with
 | true =>
  obtain ⟨hbl, hbk⟩ : ∃ hb : b < l.length, l[b].1 = key := by rw [hbe]; exact (hasKey_iff l HS.out key).1 hh
  have HP : Hid (putL l key val = (l.set b (key, val), ⟨0, 0, 0, true⟩)) := hide (by rw [putL, hh, if_pos rfl, hbe])
  rw [hh, <- hbe] at HF
  obtain ⟨g, c', hv, hg0, hgw, _, _⟩ := HO.out.shape (by omega)
  injection hv with e1 e2 e3
  subst e1
  subst e3
  have HBK := hide hbk
  have bb : (b : Int) < (l.length : Int) := by omega
  have b0 : (0 : Int) <= (b : Int) := by omega
  have n1 : ¬ g = w.heap.size + 1 := by omega
  have n2 : ¬ w.heap.size + 1 = g := by omega
  clear hbe hh hbk
  go_enter Tryz.func110, Tryz.ntmps110
  go_wp2_with fail
  refine (HF.out _ _ ((HO.out.rd.alloc _).alloc _)).mono ?_
  rintro e w2 ⟨rfl, hb2⟩
  have hk2 : Kp W1 w2 := by rw [HW1.out]; exact hb2
  have hk20 := HK1.out.trans hk2
  have q0 := hk2.cell HQ0.out
  have q1 := hk2.cell HQ1.out
  have r0 := hk2.cell HR0.out
  have r1 := hk2.cell HR1.out
  have r2 := hk2.cell HR2.out
  have r3 := hk2.cell HR3.out
  have hz1 := HZ1.out
  have f0 := (hk2.frozen (p := ⟨w.heap.size + 1, 0, none⟩) (by simp; omega)).trans (HG0.out 0)
  have f1 := (hk2.frozen (p := ⟨w.heap.size + 1, 1, none⟩) (by simp; omega)).trans (HG0.out 1)
  have f2 := (hk2.frozen (p := ⟨w.heap.size + 1, 2, none⟩) (by simp; omega)).trans (HG0.out 2)
  have f3 := (hk2.frozen (p := ⟨w.heap.size + 1, 3, none⟩) (by simp; omega)).trans (HG0.out 3)
  have HO2 := hide (HO.out.kp hk20)
  obtain ⟨y1, fy⟩ : w2.cell? ⟨g, b * 2 + 1, none⟩ = some (.int .i64 l[b].2) /\ w2.frozen? ⟨g, b * 2 + 1, none⟩ = false := HO2.out.cellPair b (by omega)
  have HZ := hide hz1
  clear hb2 hz1
  go_wp2
  refine bodyPost_ret (v := .tuple #[.slice (some ⟨g, 0, none⟩) l.length c, (⟨0, 0, 0, true⟩ : An).v]) (by simp [results, Tryz.results110, go_sem, An.v, r0, r1, r2, r3, n1, n2, y1, World.cell?_setCell_far]) rfl ⟨_, by rw [HP.out], ?_, ?_⟩
  ·rw [HP.out, <- HBK.out]
   have hne : (Value.slice (some ⟨g, 0, none⟩) l.length c).ownBlock ≠ some (w.heap.size + 1) := fun h => n1 (by injection h)
   exact ((((HO2.out.setVal b hbl val).setCell hne _).setCell hne _).setCell hne _).setCell hne _
  ·exact Kp.setR (by simp; omega) (Kp.setR (by simp; omega) (Kp.setR (by simp; omega) (Kp.setR (by simp; omega) (Kp.setR (by simp; omega) (HK0.out.trans hk20)))))
 | false =>
  rw [hh, <- hbe] at HF
  rw [<- hbe] at hble
  by_cases h200 : l.length = 200
  ·have HP : Hid (putL l key val = (l, ⟨2, 0, 0, false⟩)) := hide (by rw [putL, hh, if_neg (by simp), if_pos h200])
   have H2 := hide h200
   have t200 : ((l.length : Int) == 200) = true := by simp [h200]
   clear hbe hh h200
   go_enter Tryz.func110, Tryz.ntmps110
   go_wp2_with fail
   refine (HF.out _ _ ((HO.out.rd.alloc _).alloc _)).mono ?_
   rintro e w2 ⟨rfl, hb2⟩
   have hk2 : Kp W1 w2 := by rw [HW1.out]; exact hb2
   have hk20 := HK1.out.trans hk2
   have r0 := hk2.cell HR0.out
   have r1 := hk2.cell HR1.out
   have r2 := hk2.cell HR2.out
   have r3 := hk2.cell HR3.out
   have hz1 := HZ1.out
   have f0 := (hk2.frozen (p := ⟨w.heap.size + 1, 0, none⟩) (by simp; omega)).trans (HG0.out 0)
   have f1 := (hk2.frozen (p := ⟨w.heap.size + 1, 1, none⟩) (by simp; omega)).trans (HG0.out 1)
   have f2 := (hk2.frozen (p := ⟨w.heap.size + 1, 2, none⟩) (by simp; omega)).trans (HG0.out 2)
   have f3 := (hk2.frozen (p := ⟨w.heap.size + 1, 3, none⟩) (by simp; omega)).trans (HG0.out 3)
   have HO2 := hide (HO.out.kp hk20)
   have HLO : Hid ((Value.slice A l.length c).ownBlock ≠ some (w.heap.size + 1)) := hide (fun h => by
    have := HO.out.lt _ h; omega)
   have HZ := hide hz1
   clear hb2 hz1
   go_wp2
   refine bodyPost_ret (v := .tuple #[.slice A l.length c, (⟨2, 0, 0, false⟩ : An).v]) (by simp [results, Tryz.results110, go_sem, An.v, r0, r1, r2, r3]) rfl ⟨_, by rw [HP.out], ?_, ?_⟩
   ·rw [HP.out]
    exact (((HO2.out.setCell HLO.out _).setCell HLO.out _).setCell HLO.out _).setCell HLO.out _
   ·exact Kp.setR (by simp; omega) (Kp.setR (by simp; omega) (Kp.setR (by simp; omega) (Kp.setR (by simp; omega) (HK0.out.trans hk20))))
  ·have HP : Hid (putL l key val = (l.take b ++ [(key, val)] ++ l.drop b, ⟨0, 0, 0, false⟩)) := hide (by rw [putL, hh, if_neg (by simp), if_neg h200, hbe])
   have t200 : ((l.length : Int) == 200) = false := by simp; omega
   clear hbe hh h200
   go_enter Tryz.func110, Tryz.ntmps110
   go_wp2_with fail
   refine (HF.out _ _ ((HO.out.rd.alloc _).alloc _)).mono ?_
   rintro e w2 ⟨rfl, hb2⟩
   have hk2 : Kp W1 w2 := by rw [HW1.out]; exact hb2
   have hk20 := HK1.out.trans hk2
   have q0 := hk2.cell HQ0.out
   have q1 := hk2.cell HQ1.out
   have hz1 := HZ1.out
   have hz2 := hk2.size
   have HO2 := hide (HO.out.kp hk20)
   have HLO : Hid ((Value.slice A l.length c).ownBlock ≠ some (w.heap.size + 1)) := hide (fun h => by
    have := HO.out.lt _ h; omega)
   have HLO2 : Hid ((Value.slice A l.length c).ownBlock ≠ some w2.heap.size) := hide (fun h => by
    have := HO.out.lt _ h; omega)
   have hsz : w.heap.size + 2 <= w2.heap.size := by omega
   have HZ := hide hz1
   clear hb2 hz1 hz2
   go_wp2_with fail
   refine (insertPair_any l (key, val) b (.slice A l.length c) w2.heap.size w0.heap.size _ (HO2.out.alloc _) (heap_alloc_new w2 _) HLO2.out hble (by omega) (by simp; omega)).mono ?_
   rintro e w3 ⟨v3, rfl, ho3, hg3, hat3⟩
   have hw3 : w2.heap.size + 1 <= w3.heap.size := by have := hg3.size; simpa using this
   have ka : Kp W1 (w2.alloc (.cells #[.int .i64 key, .int .i64 val] 141)) := hk2.alloc
   have hne1 : ∀ j, some (⟨w.heap.size + 1, j, none⟩ : Addr).block ≠ (Value.slice A l.length c).ownBlock := fun j e => HLO.out e.symm
   have r0 := hg3.cell (ka.cell HR0.out) (hne1 0)
   have r1 := hg3.cell (ka.cell HR1.out) (hne1 1)
   have r2 := hg3.cell (ka.cell HR2.out) (hne1 2)
   have r3 := hg3.cell (ka.cell HR3.out) (hne1 3)
   have hz1 := HZ.out
   have f0 := ((hg3.frozen_far ⟨w.heap.size + 1, 0, none⟩ (by simp; omega) (hne1 0)).trans (ka.frozen (p := ⟨w.heap.size + 1, 0, none⟩) (by simp; omega))).trans (HG0.out 0)
   have f1 := ((hg3.frozen_far ⟨w.heap.size + 1, 1, none⟩ (by simp; omega) (hne1 1)).trans (ka.frozen (p := ⟨w.heap.size + 1, 1, none⟩) (by simp; omega))).trans (HG0.out 1)
   have f2 := ((hg3.frozen_far ⟨w.heap.size + 1, 2, none⟩ (by simp; omega) (hne1 2)).trans (ka.frozen (p := ⟨w.heap.size + 1, 2, none⟩) (by simp; omega))).trans (HG0.out 2)
   have f3 := ((hg3.frozen_far ⟨w.heap.size + 1, 3, none⟩ (by simp; omega) (hne1 3)).trans (ka.frozen (p := ⟨w.heap.size + 1, 3, none⟩) (by simp; omega))).trans (HG0.out 3)
   have HLO3 : Hid (v3.ownBlock ≠ some (w.heap.size + 1)) := hide (fun h => by
    rcases hat3 with h3 | ⟨k, h3, h4⟩
    ·exact HLO.out (h3.symm.trans h)
    ·rw [h] at h3
     injection h3 with h3
     simp at h4
     omega)
   have HO3 := hide ho3
   have HK3 : Hid (Kp w0 w3) := hide (Kp.app hg3 ((HK0.out.trans hk20).alloc) HHI.out)
   clear ho3 hg3 hat3 hne1 hz1
   go_wp2
   refine bodyPost_ret (v := .tuple #[v3, (⟨0, 0, 0, false⟩ : An).v]) (by simp [results, Tryz.results110, go_sem, An.v, r0, r1, r2, r3]) rfl ⟨_, by rw [HP.out], ?_, ?_⟩
   ·rw [HP.out]
    exact (((HO3.out.setCell HLO3.out _).setCell HLO3.out _).setCell HLO3.out _).setCell HLO3.out _
   ·exact Kp.setR (by simp; omega) (Kp.setR (by simp; omega) (Kp.setR (by simp; omega) (Kp.setR (by simp; omega) HK3.out)))
theorem clonePairs_any (l : List IP) (v : Value) (w : World) (hr : RD w ePair v l) (hn : l.length <= 1000000) : Calls Tryz.prog 107 #[v] w (RetOW 141 ePair l w) := by
 obtain ⟨A, c, rfl, hc, hm, hA, h3⟩ := id hr
 have he := fun W => Lib.run_eql_slice_nil (P := Tryz.prog) W 37 141 A l.length c 0 0 Tryz.underlying37
 have HR := hide hr
 clear hr h3
 cases A with
 | none =>
  have hc0 : c = 0 := hA rfl
  have hl : l = [] := List.eq_nil_of_length_eq_zero (by omega)
  subst hl
  subst hc0
  clear hA
  simp only [List.length_nil] at he ⊢
  go_enter Tryz.func107, Tryz.ntmps107
  go_wp2
  go_ret
  exact ⟨_, rfl, OW.nil, Below.refl _ _⟩
 | some a =>
  have HM1 : Hid ((([] : List IP).length + l.length) * 16 <= 140737488355328) := hide (by simp; omega)
  have HM2 : Hid (([] : List IP).length + l.length <= maxLen) := hide (by simp [maxLen]; omega)
  have HE : Hid (OW (w.alloc (.cells #[] 141)) w.heap.size 141 ePair (.slice (some ⟨w.heap.size, 0, none⟩) 0 0) ([] : List IP)) := hide (OW.empty (Nat.le_refl _))
  have HHI : Hi w.heap.size (.slice (some ⟨w.heap.size, 0, none⟩) 0 0) := fun k hk => by simp [Value.ownBlock] at hk; omega
  clear hA
  go_enter Tryz.func107, Tryz.ntmps107
  go_wp2_with (at_builtin; (with_reducible refine list_app (B := w.heap.size) (l := ([] : List IP)) (m := l) row_pair (.slice (some ⟨w.heap.size, 0, none⟩) 0 0) ?_ (.tmp 5) (.tmp 6) ?_ ?_ ?_ ?_ HM1.out HM2.out ?_ ?_); (with_reducible rfl); (with_reducible rfl); rfl; (exact HE.out); (show RD _ _ (.slice (some a) l.length c) _; exact HR.out.alloc _); (simp); intro v3 w3 ho3 hg3 hat3)
  go_ret
  exact ⟨_, rfl, ho3, (Kp.app hg3 (Kp.refl w).alloc HHI).bel⟩
end Go.Proofs.YtcljlnagpjilaaaGreatDoor
