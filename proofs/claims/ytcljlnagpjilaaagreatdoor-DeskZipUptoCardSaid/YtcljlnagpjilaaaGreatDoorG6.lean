/-
  skip.stack.find: what it answers
-/
import Derived.Test.YtcljlnagpjilaaaGreatDoorG5

set_option linter.unusedVariables false
set_option linter.unusedSimpArgs false
set_option maxRecDepth 100000
set_option maxHeartbeats 8000000
namespace Go.Proofs.YtcljlnagpjilaaaGreatDoor
open Go.ChangeShapes Go.WideShapes Go.ChangeAt Go.RowKit
abbrev tR : TypeId := 169
def KW (B0 : Nat) (w w' : World) : Prop := (∀ i cs t, (t = tT ∨ t = tL ∨ t = tS ∨ t = tR) -> BC w i t cs -> BC w' i t cs) /\ w.heap.size <= w'.heap.size /\ ∀ a : World, a.heap.size <= B0 -> Kp a w -> Kp a w'
def KN2 (W W' : World) : Prop := Kf (fun i => ∃ t cs, (t = tL ∨ t = tR) /\ BC W i t cs) W W'
section
variable {B0 : Nat} {a b c w w' : World}
theorem KW.refl (B0 : Nat) (w : World) : KW B0 w w := ⟨fun _ _ _ _ h => h, Nat.le_refl _, fun _ _ h => h⟩
theorem KW.trans (h : KW B0 a b) (k : KW B0 b c) : KW B0 a c := ⟨fun i cs t ht hb => k.1 i cs t ht (h.1 i cs t ht hb), Nat.le_trans h.2.1 k.2.1, fun x hx hk => k.2.2 x hx (h.2.2 x hx hk)⟩
theorem KW.of (h : Kp a b) : KW B0 a b := ⟨fun _ _ _ _ hb => hb.kp h, h.size, fun _ _ hk => hk.trans h⟩
theorem KW.on (h : KW B0 a b) (k : Kp b c) : KW B0 a c := h.trans (KW.of k)
theorem KW.alloc (h : KW B0 a b) {o : Obj} : KW B0 a (b.alloc o) := h.on (Kp.refl b).alloc
theorem KW.set {p : Addr} {u : Value} (h : KW B0 a b) (hB : B0 <= a.heap.size) (hp : a.heap.size <= p.block) : KW B0 a (b.setCell p u) :=
 ⟨fun i cs t ht hb => (h.1 i cs t ht hb).far (fun e => by have := hb.lt; omega), Nat.le_trans h.2.1 (by simp [World.setCell]), fun x hx hk => (h.2.2 x hx hk).set (by omega) u⟩
theorem SK.kw {s : Nat} {ts : List Tw} {B : Nat} (h : SK w s ts B) (k : KW B0 w w') : SK w' s ts B := h.keep fun i t cs ht _ hb => k.1 i cs t (by rcases ht with h | h | h; exact .inl h; exact .inr (.inl h); exact .inr (.inr (.inl h))) hb
end
def trZ : List Value := List.replicate 12 (.pointer none) ++ List.replicate 12 (.int .i64 0)
def trC (ts : List Tw) (key : Int) (j : Nat) : List Value :=
 ((List.range 12).map fun q => if j <= q then .pointer (some ⟨(tw ts (pF ts key q)).b, 0, none⟩) else .pointer none) ++ (List.range 12).map fun q => if j <= q then .int .i64 (pF ts key q : Nat) else .int .i64 0
theorem trC_12 (ts : List Tw) (key : Int) : trC ts key 12 = trZ := by rfl
theorem trC_set (ts : List Tw) (key : Int) (r i : Nat) (hr : r < 12) (hP : pF ts key r = i) : ((trC ts key (r + 1)).set r (.pointer (some ⟨(tw ts i).b, 0, none⟩))).set (12 + r) (.int .i64 (i : Nat)) = trC ts key r := by
 subst hP
 apply List.ext_getElem?
 intro m
 unfold trC
 simp only [List.getElem?_set, List.getElem?_append, List.getElem?_map, List.length_map, List.length_range, List.length_append, List.length_set]
 by_cases h1 : m < 12
 ·have hg : (List.range 12)[m]? = some m := by simp [h1]
  rw [if_pos h1, if_pos h1, hg]
  by_cases e : r = m
  ·subst e
   rw [if_neg (by omega), if_pos rfl, if_pos (by omega)]
   simp
  ·rw [if_neg (by omega), if_neg e]
   by_cases e2 : r <= m
   ·simp only [Option.map_some]; rw [if_pos (by omega), if_pos e2]
   ·simp only [Option.map_some]; rw [if_neg (by omega), if_neg e2]
 ·rw [if_neg h1, if_neg h1]
  by_cases h2 : m < 24
  ·have hg : (List.range 12)[m - 12]? = some (m - 12) := by rw [List.getElem?_range (by omega)]
   rw [hg]
   by_cases e : 12 + r = m
   ·subst e
    rw [if_pos rfl, if_pos (by omega)]
    simp only [Option.map_some]
    rw [if_pos (by omega), show 12 + r - 12 = r from by omega]
   ·rw [if_neg e, if_neg (by omega)]
    simp only [Option.map_some]
    by_cases e2 : r <= m - 12
    ·rw [if_pos (by omega), if_pos e2]
    ·rw [if_neg (by omega), if_neg e2]
  ·rw [if_neg (by omega), if_neg (by omega)]
   have hg : (List.range 12)[m - 12]? = none := by rw [List.getElem?_eq_none]; simp; omega
   rw [hg]; rfl
def stopsAt (ts : List Tw) (r a b : Nat) : List IP := ((List.range' (a + 1) (b - a)).filter fun m => decide (r < (tw ts m).h)).map fun m => ((r : Int), (tw ts m).p.1)
def stopsN (ts : List Tw) (key : Int) : Nat -> List IP
 | 0 => []
 | n + 1 => stopsN ts key n ++ stopsAt ts (11 - n) (pF ts key (12 - n)) (pF ts key (11 - n))
theorem stopsN_next (ts : List Tw) (key : Int) (r : Nat) (hr : r < 12) : stopsN ts key (12 - r) = stopsN ts key (12 - (r + 1)) ++ stopsAt ts r (pF ts key (r + 1)) (pF ts key r) := by
 rw [show 12 - r = (12 - (r + 1)) + 1 from by omega, stopsN, show 11 - (12 - (r + 1)) = r from by omega, show 12 - (12 - (r + 1)) = r + 1 from by omega]
theorem stopsAt_self (ts : List Tw) (r a : Nat) : stopsAt ts r a a = [] := by simp [stopsAt]
theorem stopsAt_next (ts : List Tw) (r a i : Nat) (hi : i < ts.length) (ha : a <= i) (hn : nj ts i r < ts.length) : stopsAt ts r a (nj ts i r) = stopsAt ts r a i ++ [((r : Int), (tw ts (nj ts i r)).p.1)] := by
 obtain ⟨f1, f2, f3, f4⟩ := nj_facts ts i r hi
 obtain ⟨n, hn'⟩ : ∃ n, n = nj ts i r := ⟨_, rfl⟩
 rw [<- hn'] at f1 f2 f3 f4 hn ⊢
 have f4 := f4 hn
 have h1 : List.range' (a + 1) (n - a) = List.range' (a + 1) (i - a) ++ List.range' (i + 1) (n - i - 1) ++ [n] := by
  have e1 := @List.range'_append (a + 1) (i - a) (n - i - 1) 1
  have e2 := @List.range'_append (a + 1) (n - a - 1) 1 1
  rw [show a + 1 + 1 * (i - a) = i + 1 from by omega, show i - a + (n - i - 1) = n - a - 1 from by omega] at e1
  rw [show n - a - 1 + 1 = n - a from by omega, show a + 1 + 1 * (n - a - 1) = n from by omega] at e2
  rw [e1, <- e2]; rfl
 have h2 : (List.range' (i + 1) (n - i - 1)).filter (fun m => decide (r < (tw ts m).h)) = [] := by
  rw [List.filter_eq_nil_iff]
  intro m hm
  rw [List.mem_range'_1] at hm
  have := f3 m (by omega) (by omega)
  simp; omega
 unfold stopsAt
 rw [h1, List.filter_append, List.filter_append, h2, List.map_append, List.map_append]
 simp [List.filter_cons, f4]
theorem pFn_high {ts : List Tw} {key : Int} {r : Nat} (h : ∀ m, m < ts.length -> (tw ts m).h <= r) : ∀ n, n <= ts.length -> pFn ts key r n = 0
 | 0, _ => rfl
 | n + 1, hn => by rw [pFn, if_neg (fun hh => by have := h n (by omega); omega)]; exact pFn_high h n (by omega)
theorem pF_12 {w : World} {s : Nat} {ts : List Tw} {B : Nat} {key : Int} (h : SK w s ts B) : pF ts key 12 = 0 := pFn_high (fun m hm => (h.h12 hm).2) _ (Nat.le_refl _)
theorem pFn_is {ts : List Tw} {key : Int} {r : Nat} (h0 : r < (tw ts 0).h) : ∀ n, n <= ts.length -> pFn ts key r n = 0 ∨ (pFn ts key r n < n /\ r < (tw ts (pFn ts key r n)).h /\ (tw ts (pFn ts key r n)).p.1 < key)
 | 0, _ => .inl rfl
 | n + 1, hn => by
  unfold pFn
  split
  ·next h => exact .inr ⟨by omega, h.1, h.2⟩
  ·rcases pFn_is h0 n (by omega) with h | ⟨h1, h2, h3⟩
   ·exact .inl h
   ·exact .inr ⟨by omega, h2, h3⟩
def FiRel (s : Nat) (ts : List Tw) (key : Int) (w : World) (B0 : Nat) (I : World -> List IP -> Prop) (tv pv kv nv : Value) (wr : World) : Prop :=
 ∃ j : Nat, j <= 12 /\ tv = .pointer (some ⟨(tw ts (pF ts key j)).b, 0, none⟩) /\ pv = .int .i64 (pF ts key j : Nat) /\ kv = .int .i64 ((j : Int) - 1) /\
  BC wr (w.heap.size + 1) tR (trC ts key j) /\ BC wr w.heap.size tR trZ /\ I wr (stopsN ts key (12 - j)) /\ KW B0 w wr
def FjRel (s : Nat) (ts : List Tw) (key : Int) (w : World) (B0 : Nat) (I : World -> List IP -> Prop) (r : Nat) (tv pv nv : Value) (wr : World) : Prop :=
 ∃ i n : Nat, i < ts.length /\ r < (tw ts i).h /\ (i = 0 ∨ (tw ts i).p.1 < key) /\ pF ts key (r + 1) <= i /\ tv = .pointer (some ⟨(tw ts i).b, 0, none⟩) /\ pv = .int .i64 (i : Nat) /\ nv = .pointer (some ⟨n, 0, none⟩) /\
  w.heap.size + 2 <= n /\ BC wr n tL [.pointer (lnk ts i r).1, .int .i64 ((lnk ts i r).2 : Nat)] /\
  BC wr (w.heap.size + 1) tR (trC ts key (r + 1)) /\ BC wr w.heap.size tR trZ /\ I wr (stopsN ts key (12 - (r + 1)) ++ stopsAt ts r (pF ts key (r + 1)) i) /\ KW B0 w wr
theorem pF_ok {w : World} {s : Nat} {ts : List Tw} {B : Nat} {key : Int} {r : Nat} (h : SK w s ts B) (hr : r < 12) : pF ts key (r + 1) < ts.length /\ r < (tw ts (pF ts key (r + 1))).h /\ (pF ts key (r + 1) = 0 ∨ (tw ts (pF ts key (r + 1))).p.1 < key) := by
 by_cases e : r = 11
 ·subst e
  rw [pF_12 h, h.head]
  exact ⟨h.pos, by omega, .inl rfl⟩
 ·rcases pFn_is (ts := ts) (key := key) (r := r + 1) (by rw [h.head]; omega) ts.length (Nat.le_refl _) with e | ⟨h1, h2, h3⟩
  ·have e : pF ts key (r + 1) = 0 := e
   rw [e, h.head]
   exact ⟨h.pos, by omega, .inl rfl⟩
  ·exact ⟨h1, Nat.lt_of_succ_lt h2, .inr h3⟩
theorem trC_len (ts : List Tw) (key : Int) (j : Nat) : (trC ts key j).length = 24 := by simp [trC]
theorem trC_one (ts : List Tw) (key : Int) (j : Nat) : (trC ts key j).toArray.all (·.oneCell') = true := by
 rw [Array.all_eq_true_iff_forall_mem]
 intro v hv
 have hv : v ∈ trC ts key j := by simpa using hv
 unfold trC at hv
 rcases List.mem_append.1 hv with h | h
 ·obtain ⟨q, _, rfl⟩ := List.mem_map.1 h
  split <;> rfl
 ·obtain ⟨q, _, rfl⟩ := List.mem_map.1 h
  split <;> rfl
theorem info_trail0 : (Tryz.prog.info? 169).map (·.size) = some 24 := by kernel_rfl
theorem info_trail (ts : List Tw) (key : Int) {j : Nat} : (Tryz.prog.info? 169).map (·.size) = some (trC ts key j).toArray.size := by rw [info_trail0]; simp [trC_len]
theorem KW.setRow {B0 : Nat} {a b : World} (h : KW B0 a b) (hB : B0 <= a.heap.size) {g : Nat} (hp : a.heap.size <= g) (cs : Array Value) : KW B0 a (b.setRow g cs) :=
 ⟨fun i cs' t ht hb => (setRow_other b g i cs (fun e => by have := hb.lt; omega)).trans (h.1 i cs' t ht hb), Nat.le_trans h.2.1 (by simp), fun x hx hk => Kp.of ((h.2.2 x hx hk).bel.trans ⟨rfl, rfl, rfl, by simp [World.setRow], fun k hk => setRow_other b g k cs (by omega)⟩)⟩
theorem KN2.setRow {W : World} {g : Nat} {old : List Value} (hb : BC W g tR old) (cs : Array Value) : KN2 W (W.setRow g cs) :=
 ⟨rfl, rfl, rfl, by simp, fun i hi hn => setRow_other W g i cs (fun e => hn (e ▸ ⟨_, _, .inr rfl, hb⟩))⟩
theorem stopsAt_len (ts : List Tw) (r a b : Nat) (hb : b <= 201) : (stopsAt ts r a b).length <= 201 := by
 unfold stopsAt
 rw [List.length_map]
 refine Nat.le_trans (List.length_filter_le _ _) ?_
 rw [List.length_range']; omega
theorem pFn_le {ts : List Tw} {key : Int} {r : Nat} : ∀ n, pFn ts key r n <= n
 | 0 => Nat.le_refl _
 | n + 1 => by
  unfold pFn
  split
  ·omega
  ·have := pFn_le (ts := ts) (key := key) (r := r) n; omega
theorem stopsN_len (ts : List Tw) (key : Int) (h : ts.length <= 201) : ∀ n, (stopsN ts key n).length <= n * 201
 | 0 => by simp [stopsN]
 | n + 1 => by
  rw [stopsN, List.length_append]
  have h1 := stopsN_len ts key h n
  have h2 := stopsAt_len ts (11 - n) (pF ts key (12 - n)) (pF ts key (11 - n)) (Nat.le_trans (pFn_le ts.length) h)
  omega
theorem stops_len (ts : List Tw) (key : Int) (r i : Nat) (h : ts.length <= 201) (hr : r < 12) (hi : i <= 201) : (stopsN ts key (12 - (r + 1)) ++ stopsAt ts r (pF ts key (r + 1)) i).length <= 3000 := by
 have h1 := stopsN_len ts key h (12 - (r + 1))
 have h2 := stopsAt_len ts r (pF ts key (r + 1)) i hi
 rw [List.length_append]
 omega
def FiPost (s : Nat) (ts : List Tw) (key : Int) (w : World) (B0 : Nat) (I : World -> List IP -> Prop) (e : Ending) (w' : World) : Prop :=
 e = .returned (.agg (trC ts key 0).toArray) /\ I w' (stopsN ts key 12) /\ KW B0 w w'
theorem find_nobody (s : Nat) (ts : List Tw) (key : Int) (w : World) (B B0 : Nat) (I : World -> List IP -> Prop) (hsk : SK w s ts B) (hB : B0 <= w.heap.size) (hi : I w [])
  (hcall : ∀ W st r i, st.length <= 3000 -> I W st -> KW B0 w W -> i < ts.length -> SK W s ts B -> Calls Tryz.prog 188 #[.int .i64 (r : Nat), .pointer (some ⟨(tw ts i).b, 0, none⟩)] W (fun e W' => e = .returned (.tuple #[]) /\ I W' (st ++ [(((r : Nat) : Int), (tw ts i).p.1)]) /\ KW B0 W W'))
  (hset : ∀ W W' st, I W st -> KN2 W W' -> I W' st) :
  Calls Tryz.prog 116 #[.pointer (some ⟨s, 0, none⟩), .int .i64 key, .func (.func 188) #[] #[]] w (FiPost s ts key w B0 I) := by
 have HSK := hide hsk
 have HCALL := hide hcall
 have HSET := hide hset
 have c0 : w.cell? ⟨s, 0, none⟩ = some (.pointer (some ⟨(tw ts 0).b, 0, none⟩)) := hsk.stk.cell 0
 have hslt := hsk.stk.lt
 have hlen := hsk.len
 have hpos := hsk.pos
 have HI0 := hide (hset w ((w.alloc (.cells trZ.toArray 169)).alloc (.cells trZ.toArray 169)) [] hi (Kf.of (Kp.refl w).alloc.alloc))
 have HB7 : Hid (BC ((w.alloc (.cells trZ.toArray 169)).alloc (.cells trZ.toArray 169)) (w.heap.size + 1) 169 trZ) := hide (by have h := BC.new (w.alloc (.cells trZ.toArray 169)) 169 trZ; rwa [show (w.alloc (.cells trZ.toArray 169)).heap.size = w.heap.size + 1 by simp] at h)
 have HB6 := hide ((BC.new w 169 trZ).kp (Kp.refl _).alloc (w' := (w.alloc (.cells trZ.toArray 169)).alloc (.cells trZ.toArray 169)))
 clear hsk hcall hset hi
 go_enter Tryz.func116, Tryz.ntmps116
 go_wp2
 go_loopw [8, 9, 10, 11] (FiRel s ts key w B0 I) (fun _ _ k _ _ => (intOf k + 1).toNat)
 case atStart => exact ⟨12, by omega, by rw [pF_12 HSK.out], by rw [pF_12 HSK.out]; rfl, rfl, by rw [trC_12]; exact HB7.out, HB6.out, HI0.out, (KW.refl B0 w).alloc.alloc⟩
 case round =>
  obtain ⟨j, hj, rfl, rfl, rfl, hb7, hb6, hI, hkw⟩ := hrel
  have HKW := hide hkw
  have HSKr := hide (HSK.out.kw hkw)
  have BC7 := hide hb7
  have BC6 := hide hb6
  have HI := hide hI
  clear hb7 hb6 hI hkw
  cases j with
  | zero =>
   have B7H : wr.heap[w.heap.size + 1]? = some (.cells (trC ts key 0).toArray tR (0, 0)) := BC7.out
   have B6H : wr.heap[w.heap.size]? = some (.cells trZ.toArray tR (0, 0)) := BC6.out
   have IT := info_trail ts key (j := 0)
   have T1 := trC_one ts key 0
   have TZ : trZ.toArray.size = (trC ts key 0).toArray.size := by simp [trC_len, trZ]
   go_wp2_with (first
    | ((with_reducible refine wpList_load_row ?_ 169 (.tmp 7) ?_ (w.heap.size + 1) ?_ tR (trC ts key 0).toArray (0, 0) _ B7H Tryz.underlying169 ?_ IT ?_); (with_reducible rfl); (with_reducible rfl); rfl; rfl)
    | ((with_reducible refine wpList_store_row ?_ 169 (.tmp 6) (.tmp 66) ?_ w.heap.size (trC ts key 0).toArray ?_ ?_ tR trZ.toArray B6H IT TZ T1 ?_); (with_reducible rfl); (with_reducible rfl); rfl; rfl))
   refine bodyPost_ret (v := .agg (trC ts key 0).toArray) ?_ ?_ ?_
   ·exact results_cell_row rfl _ _ w.heap.size tR (trC ts key 0).toArray (0, 0) _ rfl (setRow_heap _ _ _ _ _ _ BC6.out) Tryz.underlying169 rfl (info_trail _ _)
   ·rfl
   ·exact ⟨rfl, HSET.out _ _ _ HI.out (KN2.setRow BC6.out _), HKW.out.setRow hB (Nat.le_refl _) _⟩
  | succ r =>
   have e0 : ((r + 1 : Nat) : Int) - 1 = (r : Int) := by omega
   rw [e0]
   have hr12 : r < 12 := by omega
   obtain ⟨hi0, hr0, hl0⟩ := pF_ok (key := key) HSKr.out hr12
   obtain ⟨i0, hi0e⟩ : ∃ i0, i0 = pF ts key (r + 1) := ⟨_, rfl⟩
   have HI0E := hide hi0e
   rw [<- hi0e] at hi0 hr0 hl0 ⊢
   have HL0 := hide hl0
   have d2 := (HSKr.out.f.tower hi0).2.2
   obtain ⟨l0, l1⟩ := HSKr.out.f.link hi0 hr0
   obtain ⟨x0, hx0⟩ : ∃ x, x = (lnk ts i0 r).1 := ⟨_, rfl⟩
   obtain ⟨y0, hy0⟩ : ∃ y, y = (lnk ts i0 r).2 := ⟨_, rfl⟩
   rw [<- hx0] at l0
   rw [<- hy0] at l1
   have HX0 := hide (And.intro hx0 hy0)
   clear hi0e hl0 hx0 hy0 e0
   go_wp2
   have hsz := BC7.out.lt
   go_loopw [8, 9, 11] (FjRel s ts key w B0 I r) (fun _ pv _ _ => ts.length - (intOf pv).toNat)
   case atStart => exact ⟨i0, wr.heap.size, hi0, hr0, HL0.out, by rw [<- HI0E.out]; exact Nat.le_refl _, rfl, rfl, rfl, by omega, by rw [<- HX0.out.1, <- HX0.out.2]; exact BC.new _ _ _, BC7.out.kp (Kp.refl _).alloc, BC6.out.kp (Kp.refl _).alloc, by rw [<- HI0E.out, stopsAt_self, List.append_nil]; exact HSET.out _ _ _ HI.out (Kf.of (Kp.refl _).alloc), HKW.out.alloc⟩
   case round =>
    clear HSKr BC7 BC6 HI HKW HL0 d2 l0 l1 HX0 hsz hi0 hr0 HI0E
    obtain ⟨i, n, hi, hri, hlow, hge, rfl, rfl, rfl, hn, hbn, hb7, hb6, hI, hkw⟩ := hrel
    have HKW := hide hkw
    have HSKr := hide (HSK.out.kw hkw)
    have BC7 := hide hb7
    have BC6 := hide hb6
    have BCN := hide hbn
    have HI := hide hI
    have HLOW := hide hlow
    have n0 := hbn.cell 0
    have n1 := hbn.cell 1
    simp only [List.getElem?_cons_zero, List.getElem?_cons_succ] at n0 n1
    obtain ⟨f1, f2, f3, f4⟩ := nj_facts ts i r hi
    obtain ⟨w1, w2, w3⟩ := lnk_wide ts r hi
    have HF3 := hide f3
    clear hb7 hb6 hI hkw hbn hlow f3
    by_cases hnj : nj ts i r < ts.length
    ·have hp : (lnk ts i r).1 = some ⟨(tw ts (nj ts i r)).b, 0, none⟩ := by unfold lnk; rw [if_pos hnj]
     have hw := w3 hnj
     have hr2 := f4 hnj
     have HNX := hide (stopsAt_next ts r (pF ts key (r + 1)) i hi hge hnj)
     obtain ⟨q, hq⟩ : ∃ q, q = nj ts i r := ⟨_, rfl⟩
     have HQ := hide hq
     obtain ⟨y, hy⟩ : ∃ y, y = (lnk ts i r).2 := ⟨_, rfl⟩
     have HY := hide hy
     rw [hp, <- hq] at n0
     rw [<- hy] at n1 hw
     rw [<- hq] at hw hr2 hnj f1
     have c1 := (HSKr.out.f.tower hnj).1
     have HP := hide hp
     clear hp hq hy w1 w2 w3 f2 f4
     by_cases hk : (tw ts q).p.1 < key
     ·have s1 : IntKind.i64.wrap ((i : Int) + (y : Int)) = ((q : Nat) : Int) := by rw [IntWalk.i64_in _ (by omega)]; omega
      have d1 : decide ((tw ts q).p.1 < key) = true := decide_eq_true hk
      have HCC := hide (fun W st c a b d => HCALL.out W st r q c a b hnj d)
      have HSL := hide (stops_len ts key r i (by omega) hr12 (by omega))
      go_wp2_with (go_at_call 188; ((with_reducible refine (HCC.out _ _ HSL.out HI.out HKW.out HSKr.out).mono ?_); rintro e w5 ⟨rfl, hi5, hk5⟩); have HKW5 := hide (HKW.out.trans hk5); have HSK5 := hide (HSKr.out.kw hk5); have BC75 := hide (hk5.1 _ _ _ (.inr (.inr (.inr rfl))) BC7.out); have BC65 := hide (hk5.1 _ _ _ (.inr (.inr (.inr rfl))) BC6.out); have BCN5 := hide (hk5.1 _ _ _ (.inr (.inl rfl)) BCN.out); have HI5 : Hid (I w5 (stopsN ts key (12 - (r + 1)) ++ stopsAt ts r (pF ts key (r + 1)) q)) := hide (by have h := hi5; rw [List.append_assoc, HQ.out, <- HNX.out, <- HQ.out] at h; exact h); have m0 := BCN5.out.cell 0; have m1 := BCN5.out.cell 1; simp only [List.getElem?_cons_zero, List.getElem?_cons_succ] at m0 m1; have d2 := (HSK5.out.f.tower hnj).2.2; obtain ⟨l0, l1⟩ := HSK5.out.f.link hnj hr2; have blt1 := (HSK5.out.f.tow _ hnj).lt; have blt2 := (HSK5.out.f.lkb _ hnj).lt; obtain ⟨x0, hx0⟩ : ∃ x, x = (lnk ts q r).1 := ⟨_, rfl⟩; obtain ⟨y0, hy0⟩ : ∃ y, y = (lnk ts q r).2 := ⟨_, rfl⟩; rw [<- hx0] at l0; rw [<- hy0] at l1; have HX0 := hide (And.intro hx0 hy0); have HNS := hide (show n < w5.heap.size from BCN5.out.lt); clear hi5 hk5 hx0 hy0 n0 n1 c1)
      go_roundw
      case rel =>
       exact ⟨q, w5.heap.size, hnj, hr2, .inr hk, by omega, rfl, rfl, rfl, by have := HNS.out; omega, by rw [<- HX0.out.1, <- HX0.out.2]; exact BC.new _ _ _, BC75.out.kp (Kp.refl _).alloc, BC65.out.kp (Kp.refl _).alloc, HSET.out _ _ _ HI5.out (Kf.of (Kp.refl _).alloc), HKW5.out.alloc⟩
      case measure => simp [intOf]; omega
     ·have d1 : decide ((tw ts q).p.1 < key) = false := decide_eq_false hk
      have hP : pF ts key r = i := IsP.eq ⟨hi, hri, HLOW.out, fun m g1 g2 g3 => (by
       by_cases e : m = q
       ·subst e; omega
       ·by_cases e2 : m < q
        ·have := HF3.out m g1 (by rw [<- HQ.out]; exact e2); omega
        ·have := HSK.out.up q m (by omega) (by omega) g2; omega)⟩ (.inr trivial)
      have HP := hide hP
      obtain ⟨v1, hv1⟩ : ∃ v, wr.cell? ⟨w.heap.size + 1, r, none⟩ = some v := ⟨_, (BC7.out.cell r).trans (List.getElem?_eq_getElem (by rw [trC_len]; omega))⟩
      obtain ⟨v2, hv2⟩ : ∃ v, wr.cell? ⟨w.heap.size + 1, 12 + r, none⟩ = some v := ⟨_, (BC7.out.cell (12 + r)).trans (List.getElem?_eq_getElem (by rw [trC_len]; omega))⟩
      have fz1 := BC7.out.frozen r
      have fz2 := BC7.out.frozen (12 + r)
      have s5 : IntKind.i64.wrap ((r : Int) - 1) = (r : Int) - 1 := IntWalk.i64_in _ (by omega)
      clear hP
      go_wp2
      go_roundw
      case rel =>
       have h7 := (BC7.out.set (j := r) (u := .pointer (some ⟨(tw ts i).b, 0, none⟩))).set (j := 12 + r) (u := .int .i64 (i : Nat))
       rw [trC_set ts key r i hr12 HP.out] at h7
       exact ⟨r, by omega, by rw [HP.out], by rw [HP.out], rfl, h7, (BC6.out.far (by simp)).far (by simp), by rw [stopsN_next ts key r hr12, HP.out]; exact HSET.out _ _ _ HI.out (Kf.set (Kf.set (Kf.refl _ _) (.inl ⟨_, _, .inr rfl, BC7.out⟩)) (.inl ⟨_, _, .inr rfl, BC7.out⟩)), (HKW.out.set hB (by simp)).set hB (by simp)⟩
      case measure => (simp [intOf] <;> omega)
    ·have hp : (lnk ts i r).1 = none := by unfold lnk; rw [if_neg hnj]
     rw [hp] at n0
     have hP : pF ts key r = i := IsP.eq ⟨hi, hri, HLOW.out, fun m g1 g2 g3 => (by
      have := HF3.out m g1 (by omega); omega)⟩ (.inr trivial)
     clear hp
     have HP := hide hP
     obtain ⟨v1, hv1⟩ : ∃ v, wr.cell? ⟨w.heap.size + 1, r, none⟩ = some v := ⟨_, (BC7.out.cell r).trans (List.getElem?_eq_getElem (by rw [trC_len]; omega))⟩
     obtain ⟨v2, hv2⟩ : ∃ v, wr.cell? ⟨w.heap.size + 1, 12 + r, none⟩ = some v := ⟨_, (BC7.out.cell (12 + r)).trans (List.getElem?_eq_getElem (by rw [trC_len]; omega))⟩
     have fz1 := BC7.out.frozen r
     have fz2 := BC7.out.frozen (12 + r)
     have s5 : IntKind.i64.wrap ((r : Int) - 1) = (r : Int) - 1 := IntWalk.i64_in _ (by omega)
     clear hP
     go_wp2
     go_roundw
     case rel =>
      have h7 := (BC7.out.set (j := r) (u := .pointer (some ⟨(tw ts i).b, 0, none⟩))).set (j := 12 + r) (u := .int .i64 (i : Nat))
      rw [trC_set ts key r i hr12 HP.out] at h7
      exact ⟨r, by omega, by rw [HP.out], by rw [HP.out], rfl, h7, (BC6.out.far (by simp)).far (by simp), by rw [stopsN_next ts key r hr12, HP.out]; exact HSET.out _ _ _ HI.out (Kf.set (Kf.set (Kf.refl _ _) (.inl ⟨_, _, .inr rfl, BC7.out⟩)) (.inl ⟨_, _, .inr rfl, BC7.out⟩)), (HKW.out.set hB (by simp)).set hB (by simp)⟩
     case measure => (simp [intOf] <;> omega)
end Go.Proofs.YtcljlnagpjilaaaGreatDoor
