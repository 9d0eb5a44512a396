/-
  copy, append within the capacity, clear, append of zeros: at slices of elements of several
  A store into the second cell of a pair of an owned slice
  plain.within, hedgref.Between, hedgref.MapRight, plain.Check: what they answer
  Plain laws on lists of pairs whose keys rise
  plain.find and what it calls (cmp.Compare, slices.BinarySearchFunc at pairs): what they an
-/
import Derived.Test.YtcljlnagpjilaaaGreatDoorG2
import Derived.Laws.CopyOwn
import Derived.Lib.AppendZerosOnto
import Derived.Lib.Overlaps
import Derived.Lib.SliceRun
import Derived.Test.YtcljlnagpjilaaaGreatDoorG1

set_option linter.unusedVariables false
set_option linter.unusedSimpArgs false
set_option maxRecDepth 100000
set_option maxHeartbeats 8000000
namespace Go.Proofs.YtcljlnagpjilaaaGreatDoor
open Go.ChangeShapes Go.WideShapes Go.ChangeAt Go.RowKit
def BK (w : World) (g : Nat) (t : TypeId) (cur : List Value) : Prop := w.heap[g]? = some (.cells cur.toArray t (0, 0))
section
variable {P : Program} {w w' : World} {g : Nat} {t : TypeId} {cur cs : List Value}
theorem BK.lt (h : BK w g t cur) : g < w.heap.size := (Array.getElem?_eq_some_iff.1 h).1
theorem BK.kp (h : BK w g t cur) (hk : Kp w w') : BK w' g t cur := (hk.bel.block g h.lt).trans h
theorem BK.kg {b : Nat} (h : BK w g t cur) (hn : g ≠ b) (hk : Kg b w w') : BK w' g t cur := (hk.block h.lt hn).trans h
theorem BK.cell (h : BK w g t cur) (j : Nat) : w.cell? ⟨g, j, none⟩ = cur[j]? := by
 rw [cell_of_row w g j _ t (0, 0) h]; simp
theorem Kg.setRow (w : World) (g : Nat) (cs : Array Value) : Kg g w (w.setRow g cs) := ⟨rfl, rfl, rfl, by simp, fun k hk hn => setRow_other w g k cs (fun e => hn (by rw [e]))⟩
theorem BK.setRow (h : BK w g t cur) (cs : List Value) : BK (w.setRow g cs.toArray) g t cs := setRow_heap w g _ _ t _ h
theorem BK.of_ow {α : Type} {B : Nat} {E : Enc α} {e : TypeId} {n c : Nat} {l : List α} (h : OW w B e E (.slice (some ⟨g, 0, none⟩) n c) l) : ∃ cur : List Value, BK w g e cur /\ B <= g /\ n <= c /\ c <= maxLen /\ cur.length = c * E.size /\ cur.take (n * E.size) = l.flatMap E.cells /\ n = l.length := by
 obtain ⟨h1, h2⟩ := h
 have hn : n = l.length := by
  rcases h2 with ⟨h2, _⟩ | ⟨g', cap, cur, hv, _⟩
  ·cases h2
  ·injection hv
 rcases h2 with ⟨h2, _⟩ | ⟨g', cap, cur, hv, hb, hg, h3, h4, h5, h6⟩
 ·cases h2
 ·injection hv with e1 e2 e3
  injection e1 with e1
  injection e1 with e1 _
  subst e1 e3
  refine ⟨cur.toList, ?_, hb, by omega, h4, by simpa using h5, by rw [hn]; simpa using h6, hn⟩
  unfold BK
  simpa using hg
theorem BK.ow {α : Type} {B : Nat} {E : Enc α} {e : TypeId} {c : Nat} {l : List α} (h : BK w g e cur) (hB : B <= g) (hn : l.length <= c) (hc : c <= maxLen) (hl : cur.length = c * E.size) (ht : cur.take (l.length * E.size) = l.flatMap E.cells) :
  OW w B e E (.slice (some ⟨g, 0, none⟩) l.length c) l :=
 ⟨flat_len E l, .inr ⟨g, c, cur.toArray, rfl, hB, h, hn, hc, by simpa using hl, by simpa using ht⟩⟩
theorem splice_len (L : List Value) (off : Nat) (cs : List Value) (h : off + cs.length <= L.length) : (splice L off cs).length = L.length := length_splice L off cs h
theorem splice_at {α : Type} (L : List α) (off : Nat) (cs : List α) (h : off + cs.length <= L.length) (j : Nat) : (splice L off cs)[j]? = if j < off then L[j]? else if j < off + cs.length then cs[j - off]? else L[j]? := by
 unfold splice
 by_cases h1 : j < off
 ·rw [if_pos h1, List.getElem?_append_left (by simp; omega), List.getElem?_take, if_pos h1]
 ·rw [if_neg h1, List.getElem?_append_right (by simp; omega)]
  have e : (L.take off).length = off := by simp; omega
  rw [e]
  by_cases h2 : j < off + cs.length
  ·rw [if_pos h2, List.getElem?_append_left (by omega)]
  ·rw [if_neg h2, List.getElem?_append_right (by omega), List.getElem?_drop]
   congr 1; omega
theorem run_storeRow (hg : BK w g t cur) (o : Nat) (hfit : o + cs.length <= cur.length) (h1 : ∀ v ∈ cs, v.oneCell' = true) : (storeCells ⟨g, o, none⟩ cs).run P w = .ok () (w.setRow g (splice cur o cs).toArray) := by
 have h := run_storeCells_at P g o t cs 0 cur.toArray w hg (by simpa using hfit) h1
 rw [h]
 simp [splice]
theorem add_lit (b o j : Nat) : (⟨b, o, none⟩ : Addr).add j = ⟨b, o + j, none⟩ := by unfold Addr.add; split <;> simp_all
theorem run_copyK {dT sT ty elem : TypeId} {i0 : TypeInfo} (hi : P.info? elem = some i0) (hu : P.underlying dT = some (.slice elem)) (o dLen dCap : Nat) (a : Addr) (sLen sCap : Nat) (hg : BK w g t cur)
  (hn : cs.length = Nat.min sLen dLen * i0.size) (hsrc : ∀ j v, cs[j]? = some v -> w.cell? (a.add j) = some v) (hfit : o + cs.length <= cur.length) (h1 : ∀ v ∈ cs, v.oneCell' = true) :
  (Builtin.copy_ #[dT, sT] ty #[.slice (some ⟨g, o, none⟩) dLen dCap, .slice (some a) sLen sCap]).run P w = .ok (goInt (Nat.min sLen dLen)) (w.setRow g (splice cur o cs).toArray) := by
 have hf := run_firstCells_some (P := P) w i0.size (Nat.min sLen dLen) a sLen sCap cs hn hsrc
 have hst := run_storeRow (P := P) hg o hfit h1
 simp [Builtin.copy_, run_underlying hu, Builtin.lenOf, sizeOf, typeInfo, hi, hf, hst]
theorem run_appendK {tt tx ty elem : TypeId} {i0 : TypeInfo} (hi : P.info? elem = some i0) (hu : P.underlying tt = some (.slice elem)) (hx : P.underlying tx = some (.slice elem)) (n c : Nat) (a : Addr) (m sCap : Nat) (hg : BK w g t cur)
  (hn : cs.length = m * i0.size) (hroom : n + m <= c) (hsrc : ∀ j v, cs[j]? = some v -> w.cell? (a.add j) = some v) (hfit : n * i0.size + cs.length <= cur.length) (h1 : ∀ v ∈ cs, v.oneCell' = true) :
  (Builtin.append_ #[tt, tx] ty #[.slice (some ⟨g, 0, none⟩) n c, .slice (some a) m sCap]).run P w = .ok (.slice (some ⟨g, 0, none⟩) (n + m) c) (w.setRow g (splice cur (n * i0.size) cs).toArray) := by
 have hs : Src P i0.size tx (.slice (some a) m sCap) m cs w := Src.ofSlice w hx a m sCap cs hn hsrc h1
 have h := run_append_room_src (P := P) w tt tx ty elem i0 hu hi g 0 n c (.slice (some a) m sCap) m cs hs hroom (fun j hj => by
  rw [Nat.zero_add, hg.cell, List.getElem?_eq_getElem (by omega)]; rfl) (fun j hj => by
  unfold BK at hg
  simp [World.frozen?, hg])
 rw [h]
 have h2 := run_storeRow (P := P) hg (n * i0.size) hfit h1
 have h3 := run_storeCells_cells (P := P) g (n * i0.size) cs 0 w (fun j hj => by rw [Nat.add_zero, hg.cell, List.getElem?_eq_getElem (by omega)]; rfl) (fun j hj => by
  unfold BK at hg
  simp [World.frozen?, hg]) h1
 rw [h2] at h3
 injection h3 with _ h3
 rw [h3]
 simp
theorem run_clearK {tt ty elem : TypeId} {i0 : TypeInfo} {z : Value} (hi : P.info? elem = some i0) (hz : i0.zero = some z) (hu : P.underlying tt = some (.slice elem)) (o n c : Nat) (hn : 0 < n) (hg : BK w g t cur)
  (hzs : z.cells.size = i0.size) (hfit : o + n * i0.size <= cur.length) (h1 : ∀ v ∈ (Builtin.zeroCells z.cells n).toList, v.oneCell' = true) :
  (Builtin.clear_ #[tt] ty #[.slice (some ⟨g, o, none⟩) n c]).run P w = .ok (.tuple #[]) (w.setRow g (splice cur o (Builtin.zeroCells z.cells n).toList).toArray) := by
 have hl : (Builtin.zeroCells z.cells n).toList.length = n * i0.size := by rw [Array.length_toList, size_zeroCells, hzs]
 have hst := run_storeRow (P := P) hg o (cs := (Builtin.zeroCells z.cells n).toList) (by rw [hl]; exact hfit) h1
 cases n with
 | zero => omega
 | succ n => simp [Builtin.clear_, run_underlying hu, zeroValue, typeInfo, hi, hz, hst]
end
section
variable {P : Program} {w : World} {ops : Array Oper} {rest : List Oper} {o : Oper} {a : Act} {Q : Exit -> Act -> World -> Prop} {K : Act -> World -> Prop} {F : Prop}
theorem list_copy (hgd : o.guard = none) (d x : Operand) {dT sT : TypeId} (ho : o.op = .call { callee := .builtin .copy, args := #[d, x], argTypes := #[dT, sT] }) (v u : Value) (hd : a.eval d = v) (hx : a.eval x = u) {n : Nat} {g : Nat} {t : TypeId} {cur : List Value}
  (hg : BK w g t cur) {cs' : List Value} (hr : ∀ ty, (Builtin.copy_ #[dT, sT] ty #[v, u]).run P w = .ok (goInt n) (w.setRow g cs'.toArray))
  (h : ∀ w', Hid (BK w' g t cs') -> Kg g w w' -> wpList P ops Q rest (a.put o.dst (goInt n)) w') : wpList P ops Q (o :: rest) a w := by
 refine wpList_plain hgd fun K hK => ?_
 unfold Oper.wp execOp
 simp only [ho, resolve, invoke, builtin, Sem.run_bind, Sem.run_pure, Result.andThen_ok, List.map_toArray, List.map_cons, List.map_nil, hd, hx, hr]
 exact hK _ _ (h _ (hg.setRow cs') (Kg.setRow _ _ _))
theorem step_copy (hgd : o.guard = none) (d x : Operand) {dT sT : TypeId} (ho : o.op = .call { callee := .builtin .copy, args := #[d, x], argTypes := #[dT, sT] }) (v u : Value) (hd : a.eval d = v) (hx : a.eval x = u) {n : Nat} {g : Nat} {t : TypeId} {cur : List Value}
  (hg : BK w g t cur) {cs' : List Value} (hr : ∀ ty, (Builtin.copy_ #[dT, sT] ty #[v, u]).run P w = .ok (goInt n) (w.setRow g cs'.toArray))
  (h : ∀ w', Hid (BK w' g t cs') -> Kg g w w' -> K (a.put o.dst (goInt n)) w') : if Region.wanted o (yielded ops a.tmps) = true then Oper.wp P o a w K Q else F := by
 have hw : Region.wanted o (yielded ops a.tmps) = true := by simp [Region.wanted, hgd]
 rw [if_pos hw]
 unfold Oper.wp execOp
 simp only [ho, resolve, invoke, builtin, Sem.run_bind, Sem.run_pure, Result.andThen_ok, List.map_toArray, List.map_cons, List.map_nil, hd, hx, hr]
 exact h _ (hg.setRow cs') (Kg.setRow _ _ _)
theorem step_appK (hgd : o.guard = none) (d x : Operand) {dT sT : TypeId} (ho : o.op = .call { callee := .builtin .append, args := #[d, x], argTypes := #[dT, sT] }) (v u r : Value) (hd : a.eval d = v) (hx : a.eval x = u) {g : Nat} {t : TypeId} {cur : List Value}
  (hg : BK w g t cur) {cs' : List Value} (hr : ∀ ty, (Builtin.append_ #[dT, sT] ty #[v, u]).run P w = .ok r (w.setRow g cs'.toArray))
  (h : ∀ w', Hid (BK w' g t cs') -> Kg g w w' -> K (a.put o.dst r) w') : if Region.wanted o (yielded ops a.tmps) = true then Oper.wp P o a w K Q else F := by
 have hw : Region.wanted o (yielded ops a.tmps) = true := by simp [Region.wanted, hgd]
 rw [if_pos hw]
 unfold Oper.wp execOp
 simp only [ho, resolve, invoke, builtin, Sem.run_bind, Sem.run_pure, Result.andThen_ok, List.map_toArray, List.map_cons, List.map_nil, hd, hx, hr]
 exact h _ (hg.setRow cs') (Kg.setRow _ _ _)
theorem list_clear (hgd : o.guard = none) (d : Operand) {dT : TypeId} (ho : o.op = .call { callee := .builtin .clear, args := #[d], argTypes := #[dT] }) (v : Value) (hd : a.eval d = v) {g : Nat} {t : TypeId} {cur : List Value}
  (hg : BK w g t cur) {cs' : List Value} (hr : ∀ ty, (Builtin.clear_ #[dT] ty #[v]).run P w = .ok (.tuple #[]) (w.setRow g cs'.toArray))
  (h : ∀ w', Hid (BK w' g t cs') -> Kg g w w' -> wpList P ops Q rest (a.put o.dst (.tuple #[])) w') : wpList P ops Q (o :: rest) a w := by
 refine wpList_plain hgd fun K hK => ?_
 unfold Oper.wp execOp
 simp only [ho, resolve, invoke, builtin, Sem.run_bind, Sem.run_pure, Result.andThen_ok, List.map_toArray, List.map_cons, List.map_nil, hd, hr]
 exact hK _ _ (h _ (hg.setRow cs') (Kg.setRow _ _ _))
end
theorem OW.setVal {w : World} {B : Nat} {e : TypeId} {g n c : Nat} {l : List IP} (h : OW w B e ePair (.slice (some ⟨g, 0, none⟩) n c) l) (k : Nat) (hk : k < l.length) (x : Int) :
  OW (w.setCell ⟨g, k * 2 + 1, none⟩ (.int .i64 x)) B e ePair (.slice (some ⟨g, 0, none⟩) n c) (l.set k (l[k].1, x)) := by
 obtain ⟨cur, hbk, hB, hnc, hcm, hcl, htk, hn⟩ := BK.of_ow h
 have hes : ePair.size = 2 := rfl
 rw [hes] at hcl htk
 have hn' : n = (l.set k (l[k].1, x)).length := by simp [hn]
 have hb2 : BK (w.setCell ⟨g, k * 2 + 1, none⟩ (.int .i64 x)) g e (cur.set (k * 2 + 1) (.int .i64 x)) := by
  unfold BK at hbk ⊢
  simp only [World.setCell, Array.getElem?_modify, hbk]
  simp
 rw [hn']
 refine BK.ow (E := ePair) hb2 hB (by omega) hcm (by rw [List.length_set, hcl, hes]) ?_
 have hf := flat_set_pair (l[k].1, x) l k
 rw [<- hf, hes, List.take_set]
 simp only [List.length_set]
 rw [<- hn, htk]
 congr 1
 symm
 apply List.ext_getElem?
 intro j
 by_cases hj : j = k * 2
 ·subst hj
  have h1 := flat_at ePair l k hk 0 (by decide)
  rw [hes, Nat.add_zero] at h1
  rw [List.getElem?_set_self (by rw [flat_len, hes]; omega), h1]
  rfl
 ·rw [List.getElem?_set_ne (by omega)]
theorem OW.cellPair {w : World} {B : Nat} {e : TypeId} {g n c : Nat} {l : List IP} (h : OW w B e ePair (.slice (some ⟨g, 0, none⟩) n c) l) (k : Nat) (hk : k < l.length) :
  w.cell? ⟨g, k * 2 + 1, none⟩ = some (.int .i64 l[k].2) /\ w.frozen? ⟨g, k * 2 + 1, none⟩ = false := by
 obtain ⟨cur, hbk, _, _, _, _, _, hn⟩ := BK.of_ow h
 subst hn
 obtain ⟨b, o, e1, _, _, c1⟩ := h.rd.pair hk
 injection e1 with e1
 injection e1 with e2 e3
 subst e2 e3
 refine ⟨by rwa [Nat.zero_add] at c1, ?_⟩
 unfold BK at hbk
 simp [World.frozen?, hbk]
def btw (n lo hi : Int) : Bool := decide (lo <= n /\ n <= hi)
theorem btw_iff (n lo hi : Int) : btw n lo hi = true ↔ lo <= n /\ n <= hi := by simp [btw]
theorem btw_f_iff (n lo hi : Int) : btw n lo hi = false ↔ ¬ (lo <= n /\ n <= hi) := by simp [btw]
theorem btw_cases (n lo hi : Int) : (btw n lo hi = true /\ lo <= n /\ n <= hi) ∨ (btw n lo hi = false /\ (n < lo ∨ hi < n)) := by
 by_cases h : lo <= n /\ n <= hi
 ·exact .inl ⟨(btw_iff _ _ _).2 h, h⟩
 ·exact .inr ⟨(btw_f_iff _ _ _).2 h, by omega⟩
theorem between_any (n lo hi : Int) (w : World) :
  Calls Tryz.prog 85 #[.int .i64 n, .int .i64 lo, .int .i64 hi] w fun e w' => e = .returned (.bool (btw n lo hi)) /\ w = w' := by
 by_cases h1 : lo <= n
 ·by_cases h2 : n <= hi
  ·go_enter Tryz.func85, Tryz.ntmps85
   go_wp2
   go_ret
   exact ⟨by simp [btw]; omega, rfl⟩
  ·go_enter Tryz.func85, Tryz.ntmps85
   go_wp2
   go_ret
   exact ⟨by simp [btw]; omega, rfl⟩
 ·go_enter Tryz.func85, Tryz.ntmps85
  go_wp2
  go_ret
  exact ⟨by simp [btw]; omega, rfl⟩
theorem between_to (n lo hi : Int) (b : Bool) (w : World) (h : btw n lo hi = b) :
  Calls Tryz.prog 85 #[.int .i64 n, .int .i64 lo, .int .i64 hi] w fun e w' => e = .returned (.bool b) /\ w = w' := by
 have := between_any n lo hi w
 rwa [h] at this
theorem within_any (n lo hi : Int) (w : World) :
  Calls Tryz.prog 108 #[.int .i64 n, .int .i64 lo, .int .i64 hi] w fun e w' => e = .returned (.bool (btw n lo hi)) /\ w = w' := by
 by_cases h1 : lo <= n
 ·by_cases h2 : n <= hi
  ·go_enter Tryz.func108, Tryz.ntmps108
   go_wp2
   go_ret
   exact ⟨by simp [btw]; omega, rfl⟩
  ·go_enter Tryz.func108, Tryz.ntmps108
   go_wp2
   go_ret
   exact ⟨by simp [btw]; omega, rfl⟩
 ·go_enter Tryz.func108, Tryz.ntmps108
  go_wp2
  go_ret
  exact ⟨by simp [btw]; omega, rfl⟩
theorem within_to (n lo hi : Int) (b : Bool) (w : World) (h : btw n lo hi = b) :
  Calls Tryz.prog 108 #[.int .i64 n, .int .i64 lo, .int .i64 hi] w fun e w' => e = .returned (.bool b) /\ w = w' := by
 have := within_any n lo hi w
 rwa [h] at this
def mrFrom (last : Int) : List IP -> Int
 | [] => 0
 | p :: t => if btw p.1 (last + 1) 1000000 then mrFrom p.1 t else 3
def mapRight (l : List IP) : Int := if l.length > 200 then 2 else mrFrom (-1) l
theorem mrFrom_drop (l : List IP) (k : Nat) (h : k < l.length) (last : Int) : mrFrom last (l.drop k) = if btw l[k].1 (last + 1) 1000000 then mrFrom l[k].1 (l.drop (k+1)) else 3 := by
 rw [List.drop_eq_getElem_cons h, mrFrom]
theorem mrFrom_end (l : List IP) (k : Nat) (h : ¬ k < l.length) (last : Int) : mrFrom last (l.drop k) = 0 := by
 rw [List.drop_of_length_le (by omega)]; rfl
theorem mapRight_len (l : List IP) (h : mapRight l = 0) : l.length <= 200 := by
 unfold mapRight at h
 split at h
 ·omega
 ·omega
def CRel (l : List IP) (w : World) (i : Value) (wr : World) : Prop :=
 ∃ (k : Nat) (last : Int), k <= l.length /\ i = .int .i64 k /\ -1 <= last /\ last <= 1000000 /\ (k = 0 -> last = -1) /\ (∀ h : k - 1 < l.length, 0 < k -> last = l[k-1].1 /\ 0 <= last) /\ mrFrom last (l.drop k) = mrFrom (-1) l /\ Below w.heap.size w wr
theorem check_any (l : List IP) (v : Value) (w : World) (hr : RD w ePair v l) :
  Calls Tryz.prog 106 #[v] w (Ret (.int .i64 (mapRight l)) w) := by
 obtain ⟨A, c, rfl, hc, hm⟩ := hr.shape
 by_cases hlen : l.length > 200
 ·go_enter Tryz.func106, Tryz.ntmps106
  go_wp2
  go_ret
  exact ⟨by simp [mapRight, hlen], Below.refl _ _⟩
 ·have hres : Hid (mapRight l = mrFrom (-1) l) := hide (by simp [mapRight, hlen])
  have HR := hide hr
  clear hr
  go_enter Tryz.func106, Tryz.ntmps106
  go_wp2
  go_loopw [10] (CRel l w) (fun i wr => l.length - (intOf i).toNat)
  case atStart => exact ⟨0, -1, by omega, rfl, by omega, by omega, fun _ => rfl, fun _ h => by omega, rfl, Below.refl _ _⟩
  case round =>
   obtain ⟨k, last, hk, rfl, h1, h2, h3, h4, hmr, hbel⟩ := hrel
   have hmr' := hide hmr
   clear hmr
   have hz := hbel.size
   by_cases hlt : k < l.length
   ·obtain ⟨b, o, rfl, hb, c0, c1⟩ := (HR.out.below hbel).pair hlt
    have hd := mrFrom_drop l k hlt last
    rcases btw_cases l[k].1 0 1000000 with ⟨hB, hb3, hb4⟩ | ⟨hB, hb3⟩
    ·have hB' := hide hB
     clear hB
     by_cases hk0 : k = 0
     ·have hl : last = -1 := h3 hk0
      have hd1 : btw l[k].1 (last + 1) 1000000 = true := (btw_iff _ _ _).2 ⟨by omega, hb4⟩
      rw [hd1, if_pos rfl] at hd
      have hd' := hide hd
      have hg : decide (0 < k) = false := by simp; omega
      have hl' := hide hl
      have hk0' := hide hk0
      clear hd hd1 h3 h4 hl hk0
      go_wp2_with fail
      go_quiet ((go_at_call 108; exact Calls.quiet_of_same ((within_to _ _ _ true _ hB'.out).mono fun _ _ h => ⟨h.1, h.2.symm⟩)))
      go_wp2
      go_roundw
      case rel => exact ⟨k+1, l[k].1, by omega, by go_num, by omega, by omega, fun h => by omega, fun _ _ => ⟨rfl, hb3⟩, by rw [<- hd'.out, hmr'.out], (by (repeat' (first | exact Below.refl _ _ | (with_reducible assumption) | apply Below.drew | apply below_drewN | apply Below.alloc | apply Below.setCell)); all_goals (first | omega | (simp; omega) | (simp; done)))⟩
      case measure => simp [intOf]; omega
     ·obtain ⟨hl, hl0⟩ := h4 (by omega) (by omega)
      obtain ⟨b2, o2, e2, _, c2, _⟩ := (HR.out.below hbel).pair (k := k - 1) (by omega)
      injection e2 with e2
      injection e2 with e3 e4
      subst e3 e4
      have hg : decide (0 < k) = true := by simp; omega
      have hw1 : IntKind.i64.wrap ((k : Int) - 1) = (k : Int) - 1 := IntWalk.i64_in _ (by omega)
      have hw2 : (0 : Int) <= (k : Int) - 1 := by omega
      have hw3 : (k : Int) - 1 < (l.length : Int) := by omega
      have hw4 : ((k : Int) - 1).toNat = k - 1 := by omega
      by_cases hge : l[k].1 <= l[k-1].1
      ·have hd1 : btw l[k].1 (last + 1) 1000000 = false := (btw_f_iff _ _ _).2 (by omega)
       rw [hd1, if_neg (by simp)] at hd
       have hd' := hide hd
       have hl' := hide hl
       clear hd hd1 h3 h4 hl hk0
       go_wp2_with fail
       go_quiet ((go_at_call 108; exact Calls.quiet_of_same ((within_to _ _ _ true _ hB'.out).mono fun _ _ h => ⟨h.1, h.2.symm⟩)))
       go_wp2
       go_ret
       exact ⟨by rw [hres.out, <- hmr'.out, hd'.out]; rfl, (by (repeat' (first | exact Below.refl _ _ | (with_reducible assumption) | apply Below.drew | apply below_drewN | apply Below.alloc | apply Below.setCell)); all_goals (first | omega | (simp; omega) | (simp; done)))⟩
      ·have hd1 : btw l[k].1 (last + 1) 1000000 = true := (btw_iff _ _ _).2 ⟨by omega, hb4⟩
       rw [hd1, if_pos rfl] at hd
       have hd' := hide hd
       have hl' := hide hl
       clear hd hd1 h3 h4 hl hk0
       go_wp2_with fail
       go_quiet ((go_at_call 108; exact Calls.quiet_of_same ((within_to _ _ _ true _ hB'.out).mono fun _ _ h => ⟨h.1, h.2.symm⟩)))
       go_wp2
       go_roundw
       case rel => exact ⟨k+1, l[k].1, by omega, by go_num, by omega, by omega, fun h => by omega, fun _ _ => ⟨rfl, hb3⟩, by rw [<- hd'.out, hmr'.out], (by (repeat' (first | exact Below.refl _ _ | (with_reducible assumption) | apply Below.drew | apply below_drewN | apply Below.alloc | apply Below.setCell)); all_goals (first | omega | (simp; omega) | (simp; done)))⟩
       case measure => simp [intOf]; omega
    ·have hd1 : btw l[k].1 (last + 1) 1000000 = false := (btw_f_iff _ _ _).2 (by omega)
     rw [hd1, if_neg (by simp)] at hd
     have hd' := hide hd
     have hB' := hide hB
     clear hd hd1 h3 h4 hB hb3
     go_wp2_with fail
     go_quiet ((go_at_call 108; exact Calls.quiet_of_same ((within_to _ _ _ false _ hB'.out).mono fun _ _ h => ⟨h.1, h.2.symm⟩)))
     go_wp2
     go_ret
     exact ⟨by rw [hres.out, <- hmr'.out, hd'.out]; rfl, (by (repeat' (first | exact Below.refl _ _ | (with_reducible assumption) | apply Below.drew | apply below_drewN | apply Below.alloc | apply Below.setCell)); all_goals (first | omega | (simp; omega) | (simp; done)))⟩
   ·go_wp2
    go_ret
    exact ⟨by rw [hres.out, <- hmr'.out, mrFrom_end _ _ hlt]; rfl, hbel⟩
theorem mrFrom_cons {p : IP} {t : List IP} {last : Int} (h : mrFrom last (p :: t) = 0) : last < p.1 /\ p.1 <= 1000000 /\ mrFrom p.1 t = 0 := by
 unfold mrFrom at h
 split at h
 ·rename_i hb
  have := (btw_iff _ _ _).1 hb
  exact ⟨by omega, this.2, h⟩
 ·omega
theorem mrFrom_gt : ∀ (l : List IP) (last : Int), mrFrom last l = 0 -> ∀ x ∈ l, last < x.1
 | [], _, _, x, hx => by cases hx
 | p :: t, last, h, x, hx => by
  obtain ⟨h1, h2, h3⟩ := mrFrom_cons h
  rcases List.mem_cons.1 hx with rfl | hx
  ·exact h1
  ·have := mrFrom_gt t p.1 h3 x hx; omega
theorem mapRight_from (l : List IP) (h : mapRight l = 0) : mrFrom (-1) l = 0 := by
 unfold mapRight at h
 split at h
 ·omega
 ·exact h
theorem mrFrom_rise : ∀ (l : List IP) (last : Int), mrFrom last l = 0 -> ∀ i j (hi : i < l.length) (hj : j < l.length), i < j -> l[i].1 < l[j].1
 | p :: t, last, h, 0, j + 1, hi, hj, _ => by
  obtain ⟨_, _, h3⟩ := mrFrom_cons h
  simp only [List.getElem_cons_zero, List.getElem_cons_succ]
  exact mrFrom_gt t p.1 h3 _ (List.getElem_mem _)
 | p :: t, last, h, i + 1, j + 1, hi, hj, hij => by
  obtain ⟨_, _, h3⟩ := mrFrom_cons h
  simp only [List.getElem_cons_succ]
  exact mrFrom_rise t p.1 h3 i j (by simpa using hi) (by simpa using hj) (by omega)
 | _, _, _, 0, 0, _, _, h => by omega
 | _, _, _, i + 1, 0, _, _, h => by omega
theorem mrFrom_le6 : ∀ (l : List IP) (last : Int), mrFrom last l = 0 -> ∀ x ∈ l, x.1 <= 1000000
 | [], _, _, x, hx => by cases hx
 | p :: t, last, h, x, hx => by
  obtain ⟨h1, h2, h3⟩ := mrFrom_cons h
  rcases List.mem_cons.1 hx with rfl | hx
  ·exact h2
  ·exact mrFrom_le6 t p.1 h3 x hx
theorem mapRight_rise (l : List IP) (h : mapRight l = 0) (i j : Nat) (hi : i < l.length) (hj : j < l.length) (hij : i < j) : l[i].1 < l[j].1 := mrFrom_rise l (-1) (mapRight_from l h) i j hi hj hij
theorem mapRight_in (l : List IP) (h : mapRight l = 0) (x : IP) (hx : x ∈ l) : 0 <= x.1 /\ x.1 <= 1000000 :=
 ⟨by have := mrFrom_gt l (-1) (mapRight_from l h) x hx; omega, mrFrom_le6 l (-1) (mapRight_from l h) x hx⟩
theorem isNaN_any (n : Int) (w : World) : Calls Tryz.prog 130 #[.int .i64 n] w fun e w' => e = .returned (.bool false) /\ w = w' := by
 have h : (n != n) = false := by simp
 go_enter Tryz.func130, Tryz.ntmps130
 go_wp2
 go_ret
 exact ⟨rfl, rfl⟩
def cmp3 (a b : Int) : Int := if a < b then -1 else if b < a then 1 else 0
theorem compare_any (a b : Int) (w : World) : Calls Tryz.prog 80 #[.int .i64 a, .int .i64 b] w fun e w' => e = .returned (.int .i64 (cmp3 a b)) /\ w = w' := by
 rcases Int.lt_trichotomy a b with h | h | h
 ·have hc : Hid (cmp3 a b = -1) := hide (by rw [cmp3, if_pos h])
  have h1 : decide (a < b) = true := by simp [h]
  clear h
  go_enter Tryz.func80, Tryz.ntmps80
  go_wp2_with (go_at_call 130; refine (isNaN_any _ _).mono ?_; rintro e w' ⟨rfl, rfl⟩)
  go_ret
  exact ⟨by rw [hc.out]; rfl, rfl⟩
 ·have hc : Hid (cmp3 a b = 0) := hide (by rw [cmp3, if_neg (by omega), if_neg (by omega)])
  have h1 : decide (a < b) = false := by simp; omega
  have h2 : decide (b < a) = false := by simp; omega
  clear h
  go_enter Tryz.func80, Tryz.ntmps80
  go_wp2_with (go_at_call 130; refine (isNaN_any _ _).mono ?_; rintro e w' ⟨rfl, rfl⟩)
  go_ret
  exact ⟨by rw [hc.out]; rfl, rfl⟩
 ·have hc : Hid (cmp3 a b = 1) := hide (by rw [cmp3, if_neg (by omega), if_pos h])
  have h1 : decide (a < b) = false := by simp; omega
  have h2 : decide (b < a) = true := by simp; omega
  clear h
  go_enter Tryz.func80, Tryz.ntmps80
  go_wp2_with (go_at_call 130; refine (isNaN_any _ _).mono ?_; rintro e w' ⟨rfl, rfl⟩)
  go_ret
  exact ⟨by rw [hc.out]; rfl, rfl⟩
theorem cmp3_neg (a b : Int) : decide (cmp3 a b < 0) = decide (a < b) := by
 unfold cmp3; split <;> (try split) <;> simp <;> omega
theorem cmp3_zero (a b : Int) : (cmp3 a b == 0) = (a == b) := by
 unfold cmp3; split <;> (try split) <;> simp <;> omega
theorem find1_any (a1 a2 k : Int) (w : World) : Calls Tryz.prog 155 #[.agg #[.int .i64 a1, .int .i64 a2], .int .i64 k] w (Ret (.int .i64 (cmp3 a1 k)) w) := by
 go_enter Tryz.func155, Tryz.ntmps155
 go_wp2_with (go_at_call 80; refine (compare_any _ _ _).mono ?_; rintro e w' ⟨rfl, rfl⟩)
 go_ret
 exact ⟨rfl, (Kp.refl w).alloc.bel⟩
def below (l : List IP) (k : Int) : Nat := (l.filter fun p => decide (p.1 < k)).length
def hasKey (l : List IP) (k : Int) : Bool := l.any fun p => p.1 == k
def Rise (l : List IP) : Prop := ∀ i j (hi : i < l.length) (hj : j < l.length), i < j -> l[i].1 < l[j].1
theorem Rise.tail {p : IP} {l : List IP} (h : Rise (p :: l)) : Rise l := fun i j hi hj hij => h (i + 1) (j + 1) (by simp; omega) (by simp; omega) (by omega)
theorem below_le (l : List IP) (k : Int) : below l k <= l.length := List.length_filter_le _ _
theorem below_cut : ∀ (l : List IP), Rise l -> ∀ k i (hi : i < l.length), (i < below l k ↔ l[i].1 < k)
 | [], _, _, i, hi => by simp at hi
 | p :: t, h, k, i, hi => by
  have hz : ∀ j (hj : j < t.length), p.1 < t[j].1 := fun j hj => h 0 (j + 1) (by simp) (by simpa using hj) (by omega)
  by_cases hp : p.1 < k
  ·have e : below (p :: t) k = below t k + 1 := by simp [below, List.filter_cons, hp]
   rw [e]
   cases i with
   | zero => simp [hp]
   | succ i =>
    simp only [List.getElem_cons_succ, Nat.add_lt_add_iff_right]
    exact below_cut t h.tail k i (by simpa using hi)
  ·have e : below (p :: t) k = 0 := by
    have : ∀ x ∈ t, ¬ x.1 < k := fun x hx => by
     obtain ⟨j, hj, rfl⟩ := List.getElem_of_mem hx
     have := hz j hj; omega
    simp only [below, List.length_eq_zero_iff, List.filter_eq_nil_iff, decide_eq_true_eq, List.mem_cons]
    rintro x (rfl | hx)
    ·exact hp
    ·exact this x hx
   rw [e]
   cases i with
   | zero => simp [hp]
   | succ i =>
    simp only [List.getElem_cons_succ]
    have := hz i (by simpa using hi)
    omega
theorem hasKey_iff (l : List IP) (h : Rise l) (k : Int) : hasKey l k = true ↔ ∃ h : below l k < l.length, (l[below l k]'h).1 = k := by
 simp only [hasKey, List.any_eq_true, beq_iff_eq]
 constructor
 ·rintro ⟨x, hx, hk⟩
  obtain ⟨j, hj, rfl⟩ := List.getElem_of_mem hx
  have h1 := (below_cut l h k j hj)
  have hb : below l k <= j := by omega
  have hlt : below l k < l.length := by omega
  refine ⟨hlt, ?_⟩
  have h2 := below_cut l h k (below l k) hlt
  rcases Nat.lt_or_ge (below l k) j with h3 | h3
  ·have := h _ _ hlt hj h3; omega
  ·have e : below l k = j := by omega
   simp only [e]; exact hk
 ·rintro ⟨hlt, hk⟩
  exact ⟨_, List.getElem_mem hlt, hk⟩
def FRel (l : List IP) (k : Int) (w : World) (iv jv : Value) (wr : World) : Prop :=
 ∃ i j : Nat, i <= j /\ j <= l.length /\ iv = .int .i64 i /\ jv = .int .i64 j /\ i <= below l k /\ below l k <= j /\ Kp w wr
theorem bsf_any (l : List IP) (v : Value) (k : Int) (w : World) (hr : RD w ePair v l) (hn : l.length <= 1000) (hs : Rise l) :
  Calls Tryz.prog 154 #[v, .int .i64 k, .func (.func 155) #[] #[]] w (Ret (.tuple #[.int .i64 (below l k : Nat), .bool (hasKey l k)]) w) := by
 obtain ⟨A, c, rfl, hc, hm⟩ := hr.shape
 have HR := hide hr
 have HS := hide hs
 have hble := below_le l k
 clear hr hs
 go_enter Tryz.func154, Tryz.ntmps154
 go_wp2
 go_loopw [9, 10] (FRel l k w) (fun i j _ => (intOf j - intOf i).toNat)
 case atStart => exact ⟨0, l.length, by omega, by omega, rfl, rfl, by omega, hble, Kp.refl _⟩
 case round =>
  obtain ⟨i, j, hij, hj, rfl, rfl, hi2, hj2, hkp⟩ := hrel
  by_cases hlt : i < j
  ·have hml : (i + j) / 2 < l.length := by omega
   obtain ⟨b, o, rfl, _, c0, c1⟩ := (HR.out.kp hkp).pair hml
   have hcut := below_cut l HS.out k ((i + j) / 2) hml
   have hcn := cmp3_neg l[(i + j) / 2].1 k
   have b1 : ((i : Int) + (j : Int)) / 2 < (l.length : Int) := by omega
   by_cases hd : l[(i + j) / 2].1 < k
   ·have hd1 : decide (cmp3 l[(i + j) / 2].1 k < 0) = true := by rw [hcn]; simp [hd]
    have hb : (i + j) / 2 < below l k := hcut.2 hd
    clear hcut hcn hd
    go_wp2_with (go_at_call 155; refine (find1_any _ _ _ _).mono ?_; rintro e w1 ⟨rfl, hb1⟩)
    go_roundw
    case rel => exact ⟨(i + j) / 2 + 1, j, by omega, hj, by go_num, rfl, by omega, hj2, hkp.trans hb1⟩
    case measure => simp [intOf]; omega
   ·have hd1 : decide (cmp3 l[(i + j) / 2].1 k < 0) = false := by rw [hcn]; simp; omega
    have hb : below l k <= (i + j) / 2 := by omega
    clear hcut hcn hd
    go_wp2_with (go_at_call 155; refine (find1_any _ _ _ _).mono ?_; rintro e w1 ⟨rfl, hb1⟩)
    go_roundw
    case rel => exact ⟨i, (i + j) / 2, by omega, by omega, rfl, by go_num, by omega, by omega, hkp.trans hb1⟩
    case measure => simp [intOf]; omega
  ·have hib : Hid (i = below l k) := hide (by omega)
   by_cases hin : i < l.length
   ·obtain ⟨b, o, rfl, _, c0, c1⟩ := (HR.out.kp hkp).pair hin
    have hcz := cmp3_zero l[i].1 k
    have hhk : Hid (hasKey l k = (l[i].1 == k)) := hide (by
     rw [Bool.eq_iff_iff, hasKey_iff l HS.out k, beq_iff_eq, <- hib.out]
     exact ⟨fun ⟨_, h⟩ => h, fun h => ⟨hin, h⟩⟩)
    have hd : decide ((i : Int) < (l.length : Int)) = true := by simp [hin]
    have hd' : decide (i < l.length) = true := by simp [hin]
    have HCZ := hide hcz
    clear hcz
    go_wp2_with (go_at_call 155; refine (find1_any _ _ _ _).mono ?_; rintro e w1 ⟨rfl, hb1⟩)
    go_ret2
    exact ⟨by rw [hhk.out, <- HCZ.out, <- hib.out]; rfl, (hkp.trans hb1).bel⟩
   ·have hhk : Hid (hasKey l k = false) := hide (by
     rw [Bool.eq_false_iff]
     intro h
     obtain ⟨h1, _⟩ := (hasKey_iff l HS.out k).1 h
     omega)
    have hd' : decide (i < l.length) = false := by simp [hin]
    go_wp2
    go_ret2
    exact ⟨by rw [hhk.out, <- hib.out]; rfl, hkp.bel⟩
theorem find_any (l : List IP) (v : Value) (k : Int) (w : World) (hr : RD w ePair v l) (hn : l.length <= 1000) (hs : Rise l) :
  Calls Tryz.prog 109 #[v, .int .i64 k] w (Ret (.tuple #[.int .i64 (below l k : Nat), .bool (hasKey l k)]) w) := by
 have HC := hide (fun w h => bsf_any l v k w h hn hs)
 have HR := hide hr
 clear hr hs
 go_enter Tryz.func109, Tryz.ntmps109
 go_wp2_with fail
 refine (HC.out _ HR.out).mono ?_
 rintro e w1 ⟨rfl, hb1⟩
 go_wp2
 go_ret2
 exact ⟨rfl, hb1⟩
end Go.Proofs.YtcljlnagpjilaaaGreatDoor
