/-
  Rows above rows: towers in order, with the links that each row has (the next tower that is
  Rows above rows in the heap (SKF: towers with what their links hold; SK: a whole stack): w
-/
import Derived.Test.YtcljlnagpjilaaaGreatDoorG3
import Derived.Test.YtcljlnagpjilaaaGreatDoorG1

set_option linter.unusedVariables false
set_option linter.unusedSimpArgs false
set_option maxRecDepth 100000
set_option maxHeartbeats 8000000
namespace Go.Proofs.YtcljlnagpjilaaaGreatDoor
open Go.ChangeShapes Go.WideShapes Go.ChangeAt Go.RowKit
structure Tw where
 b : Nat
 g : Nat
 h : Nat
 p : IP
def tw (ts : List Tw) (m : Nat) : Tw := ts.getD m ⟨0, 0, 0, (0, 0)⟩
def njF (H : Nat -> Nat) (r : Nat) : Nat -> Nat -> Nat
 | 0, m => m
 | k + 1, m => if r < H m then m else njF H r k (m + 1)
theorem njF_facts (H : Nat -> Nat) (r : Nat) : ∀ k m, m <= njF H r k m /\ njF H r k m <= m + k /\ (∀ x, m <= x -> x < njF H r k m -> H x <= r) /\ (njF H r k m < m + k -> r < H (njF H r k m))
 | 0, m => ⟨Nat.le_refl _, Nat.le_refl _, fun x h1 h2 => by unfold njF at h2; omega, fun h => by unfold njF at h; omega⟩
 | k + 1, m => by
  unfold njF
  split
  ·next h => exact ⟨Nat.le_refl _, by omega, fun x h1 h2 => by omega, fun _ => h⟩
  ·next h =>
   obtain ⟨h1, h2, h3, h4⟩ := njF_facts H r k (m + 1)
   refine ⟨by omega, by omega, fun x hx hx2 => ?_, fun hx => h4 (by omega)⟩
   by_cases e : x = m
   ·subst e; omega
   ·exact h3 x (by omega) hx2
def nj (ts : List Tw) (i r : Nat) : Nat := njF (fun m => (tw ts m).h) r (ts.length - (i + 1)) (i + 1)
theorem nj_facts (ts : List Tw) (i r : Nat) (hi : i < ts.length) : i < nj ts i r /\ nj ts i r <= ts.length /\ (∀ x, i < x -> x < nj ts i r -> (tw ts x).h <= r) /\ (nj ts i r < ts.length -> r < (tw ts (nj ts i r)).h) := by
 obtain ⟨h1, h2, h3, h4⟩ := njF_facts (fun m => (tw ts m).h) r (ts.length - (i + 1)) (i + 1)
 exact ⟨h1, by unfold nj; omega, fun x hx hx2 => h3 x hx hx2, fun h => h4 (by unfold nj at h; omega)⟩
theorem nj_eq {ts : List Tw} {i r n : Nat} (hi : i < n) (hn : n <= ts.length) (h1 : ∀ x, i < x -> x < n -> (tw ts x).h <= r) (h2 : n < ts.length -> r < (tw ts n).h) : nj ts i r = n := by
 obtain ⟨f1, f2, f3, f4⟩ := nj_facts ts i r (by omega)
 rcases Nat.lt_trichotomy (nj ts i r) n with h | h | h
 ·have := h1 _ f1 h
  have := f4 (by omega)
  omega
 ·exact h
 ·have := f3 n hi h
  have := h2 (by omega)
  omega
def lnk (ts : List Tw) (i r : Nat) : Option Addr × Nat := (if nj ts i r < ts.length then some ⟨(tw ts (nj ts i r)).b, 0, none⟩ else none, min (nj ts i r) (ts.length - 1) - i)
def IsP (ts : List Tw) (key : Int) (r i : Nat) : Prop := i < ts.length /\ r < (tw ts i).h /\ (i = 0 ∨ (tw ts i).p.1 < key) /\ ∀ m, i < m -> m < ts.length -> r < (tw ts m).h -> key <= (tw ts m).p.1
def pFn (ts : List Tw) (key : Int) (r : Nat) : Nat -> Nat
 | 0 => 0
 | n + 1 => if r < (tw ts n).h /\ (tw ts n).p.1 < key then n else pFn ts key r n
def pF (ts : List Tw) (key : Int) (r : Nat) : Nat := pFn ts key r ts.length
theorem IsP.eq {ts : List Tw} {key : Int} {r i : Nat} (h : IsP ts key r i) (hlo : (tw ts 0).p.1 < key ∨ True) : pF ts key r = i := by
 obtain ⟨h1, h2, h3, h4⟩ := h
 have : ∀ n, n <= ts.length -> i < n -> pFn ts key r n = i := by
  intro n
  induction n with
  | zero => intro _ h; omega
  | succ n ih =>
   intro hn hi
   unfold pFn
   by_cases e : i = n
   ·subst e
    rcases h3 with rfl | h3
    ·split
     ·rfl
     ·rfl
    ·rw [if_pos ⟨h2, h3⟩]
   ·rw [if_neg (fun hh => by have := h4 n (by omega) (by omega) hh.1; omega)]
    exact ih (by omega) (by omega)
 exact this ts.length (Nat.le_refl _) h1
def insT (ts : List Tw) (c : Nat) (t : Tw) : List Tw := ts.take c ++ t :: ts.drop c
theorem insT_len {ts : List Tw} {c : Nat} {t : Tw} (hc : c <= ts.length) : (insT ts c t).length = ts.length + 1 := by simp [insT]; omega
theorem tw_ins {ts : List Tw} {c : Nat} {t : Tw} (hc : c <= ts.length) (m : Nat) : tw (insT ts c t) m = if m < c then tw ts m else if m = c then t else tw ts (m - 1) := by
 unfold tw insT
 simp only [List.getD_eq_getElem?_getD]
 by_cases h1 : m < c
 ·rw [if_pos h1, List.getElem?_append_left (by simp; omega), List.getElem?_take_of_lt h1]
 ·rw [if_neg h1, List.getElem?_append_right (by simp; omega), List.length_take, Nat.min_eq_left hc]
  by_cases h2 : m = c
  ·subst h2; simp
  ·rw [if_neg h2, show m - c = (m - 1 - c) + 1 from by omega, List.getElem?_cons_succ, List.getElem?_drop]
   congr 2; omega
section
variable {ts : List Tw} {c : Nat} {t : Tw} {key : Int}
theorem nj_ins_gt (hc : c <= ts.length) (h0 : 0 < c) {j r : Nat} (hj : c < j) (hj2 : j <= ts.length) : nj (insT ts c t) j r = nj ts (j - 1) r + 1 := by
 obtain ⟨f1, f2, f3, f4⟩ := nj_facts ts (j - 1) r (by omega)
 refine nj_eq (by omega) (by rw [insT_len hc]; omega) (fun x h1 h2 => ?_) (fun h => ?_)
 ·rw [tw_ins hc, if_neg (by omega), if_neg (by omega)]
  exact f3 (x - 1) (by omega) (by omega)
 ·rw [insT_len hc] at h
  rw [tw_ins hc, if_neg (by omega), if_neg (by omega), Nat.add_sub_cancel]
  exact f4 (by omega)
theorem nj_ins_at (hc : c <= ts.length) (h0 : 0 < c) {p r : Nat} (hp : p < c) (hb : ∀ x, p < x -> x < c -> (tw ts x).h <= r) : nj (insT ts c t) c r = nj ts p r + 1 := by
 obtain ⟨f1, f2, f3, f4⟩ := nj_facts ts p r (by omega)
 have hge : c <= nj ts p r := by
  by_cases h : nj ts p r < c
  ·have := hb _ f1 h
   have := f4 (by omega)
   omega
  ·omega
 refine nj_eq (by omega) (by rw [insT_len hc]; omega) (fun x h1 h2 => ?_) (fun h => ?_)
 ·rw [tw_ins hc, if_neg (by omega), if_neg (by omega)]
  exact f3 (x - 1) (by omega) (by omega)
 ·rw [insT_len hc] at h
  rw [tw_ins hc, if_neg (by omega), if_neg (by omega), Nat.add_sub_cancel]
  exact f4 (by omega)
theorem nj_ins_lt (hc : c <= ts.length) {j r q : Nat} (hj : j < q) (hq : q < c) (hqr : r < (tw ts q).h) : nj (insT ts c t) j r = nj ts j r /\ nj ts j r <= q := by
 obtain ⟨f1, f2, f3, f4⟩ := nj_facts ts j r (by omega)
 have hle : nj ts j r <= q := by
  by_cases h : q < nj ts j r
  ·have := f3 q hj h; omega
  ·omega
 refine ⟨nj_eq f1 (by rw [insT_len hc]; omega) (fun x h1 h2 => ?_) (fun h => ?_), hle⟩
 ·rw [tw_ins hc, if_pos (by omega)]; exact f3 x h1 h2
 ·rw [tw_ins hc, if_pos (by omega)]; exact f4 (by omega)
theorem nj_ins_high (hc : c <= ts.length) {p r : Nat} (hp : p < c) (hb : ∀ x, p < x -> x < c -> (tw ts x).h <= r) (hr : r < t.h) : nj (insT ts c t) p r = c := by
 refine nj_eq hp (by rw [insT_len hc]; omega) (fun x h1 h2 => ?_) (fun h => ?_)
 ·rw [tw_ins hc, if_pos h2]; exact hb x h1 h2
 ·rw [tw_ins hc, if_neg (by omega), if_pos rfl]; exact hr
theorem nj_ins_low (hc : c <= ts.length) {p r : Nat} (hp : p < c) (hb : ∀ x, p < x -> x < c -> (tw ts x).h <= r) (hr : t.h <= r) : nj (insT ts c t) p r = nj ts p r + 1 /\ c <= nj ts p r := by
 obtain ⟨f1, f2, f3, f4⟩ := nj_facts ts p r (by omega)
 have hge : c <= nj ts p r := by
  by_cases h : nj ts p r < c
  ·have := hb _ f1 h
   have := f4 (by omega)
   omega
  ·omega
 refine ⟨nj_eq (by omega) (by rw [insT_len hc]; omega) (fun x h1 h2 => ?_) (fun h => ?_), hge⟩
 ·rw [tw_ins hc]
  by_cases e1 : x < c
  ·rw [if_pos e1]; exact hb x h1 e1
  ·rw [if_neg e1]
   by_cases e2 : x = c
   ·rw [if_pos e2]; exact hr
   ·rw [if_neg e2]; exact f3 (x - 1) (by omega) (by omega)
 ·rw [insT_len hc] at h
  rw [tw_ins hc, if_neg (by omega), if_neg (by omega), Nat.add_sub_cancel]
  exact f4 (by omega)
theorem lnk_ins_gt (hc : c <= ts.length) (h0 : 0 < c) {j r : Nat} (hj : c < j) (hj2 : j <= ts.length) : lnk (insT ts c t) j r = lnk ts (j - 1) r := by
 obtain ⟨f1, f2, f3, f4⟩ := nj_facts ts (j - 1) r (by omega)
 have et : tw (insT ts c t) (nj ts (j - 1) r + 1) = tw ts (nj ts (j - 1) r) := by rw [tw_ins hc, if_neg (by omega), if_neg (by omega), Nat.add_sub_cancel]
 unfold lnk
 rw [nj_ins_gt hc h0 hj hj2, insT_len hc, et]
 refine Prod.ext ?_ ?_
 ·simp only [Nat.add_lt_add_iff_right]
 ·simp only; omega
theorem lnk_ins_lt (hc : c <= ts.length) {j r q : Nat} (hj : j < q) (hq : q < c) (hqr : r < (tw ts q).h) : lnk (insT ts c t) j r = lnk ts j r := by
 obtain ⟨e, hle⟩ := nj_ins_lt (t := t) hc hj hq hqr
 have et : tw (insT ts c t) (nj ts j r) = tw ts (nj ts j r) := by rw [tw_ins hc, if_pos (show nj ts j r < c by omega)]
 unfold lnk
 rw [e, insT_len hc, et]
 refine Prod.ext ?_ ?_
 ·simp only; rw [if_pos (by omega), if_pos (by omega)]
 ·simp only; omega
theorem lnk_ins_at (hc : c <= ts.length) (h0 : 0 < c) {p r : Nat} (hp : p < c) (hb : ∀ x, p < x -> x < c -> (tw ts x).h <= r) : lnk (insT ts c t) c r = ((lnk ts p r).1, p + (lnk ts p r).2 + 1 - c) := by
 obtain ⟨f1, f2, f3, f4⟩ := nj_facts ts p r (by omega)
 have hge : c <= nj ts p r := by
  by_cases h : nj ts p r < c
  ·have := hb _ f1 h
   have := f4 (by omega)
   omega
  ·omega
 have et : tw (insT ts c t) (nj ts p r + 1) = tw ts (nj ts p r) := by rw [tw_ins hc, if_neg (by omega), if_neg (by omega), Nat.add_sub_cancel]
 unfold lnk
 rw [nj_ins_at hc h0 hp hb, insT_len hc, et]
 refine Prod.ext ?_ ?_
 ·simp only [Nat.add_lt_add_iff_right]
 ·simp only; omega
theorem lnk_ins_high (hc : c <= ts.length) {p r : Nat} (hp : p < c) (hb : ∀ x, p < x -> x < c -> (tw ts x).h <= r) (hr : r < t.h) : lnk (insT ts c t) p r = (some ⟨t.b, 0, none⟩, c - p) := by
 have et : tw (insT ts c t) c = t := by rw [tw_ins hc, if_neg (by omega), if_pos rfl]
 unfold lnk
 rw [nj_ins_high hc hp hb hr, insT_len hc, et]
 refine Prod.ext ?_ ?_
 ·simp only; rw [if_pos (by omega)]
 ·simp only; omega
theorem lnk_ins_low (hc : c <= ts.length) {p r : Nat} (hp : p < c) (hb : ∀ x, p < x -> x < c -> (tw ts x).h <= r) (hr : t.h <= r) : lnk (insT ts c t) p r = ((lnk ts p r).1, (lnk ts p r).2 + 1) := by
 obtain ⟨e, hge⟩ := nj_ins_low (t := t) hc hp hb hr
 obtain ⟨f1, f2, f3, f4⟩ := nj_facts ts p r (by omega)
 have et : tw (insT ts c t) (nj ts p r + 1) = tw ts (nj ts p r) := by rw [tw_ins hc, if_neg (by omega), if_neg (by omega), Nat.add_sub_cancel]
 unfold lnk
 rw [e, insT_len hc, et]
 refine Prod.ext ?_ ?_
 ·simp only [Nat.add_lt_add_iff_right]
 ·simp only; omega
theorem lnk_wide (ts : List Tw) {i : Nat} (r : Nat) (hi : i < ts.length) : (lnk ts i r).2 <= ts.length /\ i + (lnk ts i r).2 <= ts.length - 1 /\ (nj ts i r < ts.length -> i + (lnk ts i r).2 = nj ts i r) := by
 obtain ⟨f1, f2, f3, f4⟩ := nj_facts ts i r hi
 unfold lnk
 refine ⟨?_, ?_, fun h => ?_⟩ <;> simp only <;> omega
end
def lkC (f : Nat -> Option Addr × Nat) (h : Nat) : List Value := (List.range h).flatMap fun r => [.pointer (f r).1, .int .i64 ((f r).2 : Nat)]
theorem lkC_succ (f : Nat -> Option Addr × Nat) (h : Nat) : lkC f (h + 1) = lkC f h ++ [.pointer (f h).1, .int .i64 ((f h).2 : Nat)] := by
 unfold lkC; rw [List.range_succ, List.flatMap_append]; simp
theorem lkC_len (f : Nat -> Option Addr × Nat) : ∀ h, (lkC f h).length = h * 2
 | 0 => rfl
 | h + 1 => by rw [lkC_succ, List.length_append, lkC_len f h]; simp; omega
theorem lkC_at (f : Nat -> Option Addr × Nat) : ∀ (h r : Nat), r < h -> (lkC f h)[r * 2]? = some (.pointer (f r).1) /\ (lkC f h)[r * 2 + 1]? = some (.int .i64 ((f r).2 : Nat))
 | 0, r, hr => by omega
 | h + 1, r, hr => by
  rw [lkC_succ]
  by_cases e : r = h
  ·subst e
   rw [List.getElem?_append_right (by rw [lkC_len]; omega), List.getElem?_append_right (by rw [lkC_len]; omega), lkC_len]
   simp
  ·obtain ⟨h1, h2⟩ := lkC_at f h r (by omega)
   rw [List.getElem?_append_left (by rw [lkC_len]; omega), List.getElem?_append_left (by rw [lkC_len]; omega)]
   exact ⟨h1, h2⟩
theorem lkC_congr {f f' : Nat -> Option Addr × Nat} : ∀ {h : Nat}, (∀ r, r < h -> f r = f' r) -> lkC f h = lkC f' h
 | 0, _ => rfl
 | h + 1, e => by rw [lkC_succ, lkC_succ, lkC_congr (fun r hr => e r (by omega)), e h (by omega)]
def upd1 (f : Nat -> Option Addr × Nat) (r : Nat) (x : Option Addr × Nat) : Nat -> Option Addr × Nat := fun q => if q = r then x else f q
theorem lkC_set (f : Nat -> Option Addr × Nat) (p : Option Addr) (n : Nat) : ∀ (h r : Nat), r < h -> ((lkC f h).set (r * 2) (.pointer p)).set (r * 2 + 1) (.int .i64 (n : Nat)) = lkC (upd1 f r (p, n)) h
 | 0, r, hr => by omega
 | h + 1, r, hr => by
  rw [lkC_succ, lkC_succ]
  by_cases e : r = h
  ·subst e
   have e1 : lkC (upd1 f r (p, n)) r = lkC f r := lkC_congr fun q hq => by rw [upd1, if_neg (by omega)]
   rw [e1, List.set_append_right _ _ (by rw [lkC_len]; omega), List.set_append_right _ _ (by rw [lkC_len]; omega), lkC_len]
   simp [upd1]
  ·rw [List.set_append_left _ _ (by rw [lkC_len]; omega), List.set_append_left _ _ (by rw [List.length_set, lkC_len]; omega), lkC_set f p n h r (by omega)]
   rw [show upd1 f r (p, n) h = f h by rw [upd1, if_neg (by omega)]]
theorem lkC_setW (f : Nat -> Option Addr × Nat) (n : Nat) : ∀ (h r : Nat), r < h -> (lkC f h).set (r * 2 + 1) (.int .i64 (n : Nat)) = lkC (upd1 f r ((f r).1, n)) h
 | 0, r, hr => by omega
 | h + 1, r, hr => by
  rw [lkC_succ, lkC_succ]
  by_cases e : r = h
  ·subst e
   have e1 : lkC (upd1 f r ((f r).1, n)) r = lkC f r := lkC_congr fun q hq => by rw [upd1, if_neg (by omega)]
   rw [e1, List.set_append_right _ _ (by rw [lkC_len]; omega), lkC_len]
   simp [upd1]
  ·rw [List.set_append_left _ _ (by rw [lkC_len]; omega), lkC_setW f n h r (by omega)]
   rw [show upd1 f r ((f r).1, n) h = f h by rw [upd1, if_neg (by omega)]]
def twC (t : Tw) : List Value := [.int .i64 t.p.1, .int .i64 t.p.2, .slice (some ⟨t.g, 0, none⟩) t.h t.h]
def upd (F : Nat -> Nat -> Option Addr × Nat) (i r : Nat) (x : Option Addr × Nat) : Nat -> Nat -> Option Addr × Nat := fun j => if j = i then upd1 (F i) r x else F j
abbrev tT : TypeId := 173
abbrev tL : TypeId := 225
abbrev tS : TypeId := 227
theorem tT_ne_tL : tT ≠ tL := by decide
theorem tT_ne_tS : tT ≠ tS := by decide
structure SKF (w : World) (F : Nat -> Nat -> Option Addr × Nat) (ts : List Tw) (B : Nat) : Prop where
 tow : ∀ i, i < ts.length -> BC w (tw ts i).b tT (twC (tw ts i))
 lkb : ∀ i, i < ts.length -> BC w (tw ts i).g tL (lkC (F i) (tw ts i).h)
 gdj : ∀ i j, i < ts.length -> j < ts.length -> (tw ts i).g = (tw ts j).g -> i = j
 bdj : ∀ i j, i < ts.length -> j < ts.length -> (tw ts i).b = (tw ts j).b -> i = j
 own : ∀ i, i < ts.length -> B <= (tw ts i).b /\ B <= (tw ts i).g
section
variable {w w' : World} {F F' : Nat -> Nat -> Option Addr × Nat} {ts : List Tw} {B : Nat}
theorem SKF.keep (h : SKF w F ts B) (hk : ∀ i t cs, (t = tT ∨ t = tL) -> B <= i -> BC w i t cs -> BC w' i t cs) : SKF w' F ts B :=
 ⟨fun i hi => hk _ _ _ (.inl rfl) (h.own i hi).1 (h.tow i hi), fun i hi => hk _ _ _ (.inr rfl) (h.own i hi).2 (h.lkb i hi), h.gdj, h.bdj, h.own⟩
theorem SKF.kp (h : SKF w F ts B) (hk : Kp w w') : SKF w' F ts B := h.keep fun _ _ _ _ _ hb => hb.kp hk
theorem SKF.congr (h : SKF w F ts B) (e : ∀ i r, i < ts.length -> r < (tw ts i).h -> F i r = F' i r) : SKF w F' ts B :=
 ⟨h.tow, fun i hi => by rw [<- lkC_congr (fun r hr => e i r hi hr)]; exact h.lkb i hi, h.gdj, h.bdj, h.own⟩
theorem SKF.far (h : SKF w F ts B) {p : Addr} {u : Value} (hp : ∀ t cs, BC w p.block t cs -> t ≠ tT /\ t ≠ tL) : SKF (w.setCell p u) F ts B :=
 h.keep fun i t cs ht _ hb => hb.far (fun e => by subst e; have := hp t cs hb; rcases ht with rfl | rfl; exact this.1 rfl; exact this.2 rfl)
theorem SKF.set2 (h : SKF w F ts B) {i r : Nat} (hi : i < ts.length) (hr : r < (tw ts i).h) (p : Option Addr) (n : Nat) :
  SKF ((w.setCell ⟨(tw ts i).g, r * 2, none⟩ (.pointer p)).setCell ⟨(tw ts i).g, r * 2 + 1, none⟩ (.int .i64 (n : Nat))) (upd F i r (p, n)) ts B := by
 refine ⟨fun j hj => ?_, fun j hj => ?_, h.gdj, h.bdj, h.own⟩
 ·exact ((h.tow j hj).far ((h.tow j hj).ne (h.lkb i hi) tT_ne_tL)).far ((h.tow j hj).ne (h.lkb i hi) tT_ne_tL)
 ·by_cases e : j = i
  ·subst e
   have := ((h.lkb j hj).set (j := r * 2) (u := .pointer p)).set (j := r * 2 + 1) (u := .int .i64 (n : Nat))
   rw [lkC_set _ _ _ _ _ hr] at this
   rw [upd, if_pos rfl]; exact this
  ·have hne : (tw ts j).g ≠ (tw ts i).g := fun he => e (h.gdj j i hj hi he)
   rw [upd, if_neg e]
   exact ((h.lkb j hj).far hne).far hne
theorem SKF.setW (h : SKF w F ts B) {i r : Nat} (hi : i < ts.length) (hr : r < (tw ts i).h) (n : Nat) :
  SKF (w.setCell ⟨(tw ts i).g, r * 2 + 1, none⟩ (.int .i64 (n : Nat))) (upd F i r ((F i r).1, n)) ts B := by
 refine ⟨fun j hj => ?_, fun j hj => ?_, h.gdj, h.bdj, h.own⟩
 ·exact (h.tow j hj).far ((h.tow j hj).ne (h.lkb i hi) tT_ne_tL)
 ·by_cases e : j = i
  ·subst e
   have := (h.lkb j hj).set (j := r * 2 + 1) (u := .int .i64 (n : Nat))
   rw [lkC_setW _ _ _ _ hr] at this
   rw [upd, if_pos rfl]; exact this
  ·have hne : (tw ts j).g ≠ (tw ts i).g := fun he => e (h.gdj j i hj hi he)
   rw [upd, if_neg e]
   exact (h.lkb j hj).far hne
theorem SKF.link (h : SKF w F ts B) {i r : Nat} (hi : i < ts.length) (hr : r < (tw ts i).h) : w.cell? ⟨(tw ts i).g, r * 2, none⟩ = some (.pointer (F i r).1) /\ w.cell? ⟨(tw ts i).g, r * 2 + 1, none⟩ = some (.int .i64 ((F i r).2 : Nat)) := by
 obtain ⟨h1, h2⟩ := lkC_at (F i) _ r hr
 exact ⟨((h.lkb i hi).cell _).trans h1, ((h.lkb i hi).cell _).trans h2⟩
theorem SKF.tower (h : SKF w F ts B) {i : Nat} (hi : i < ts.length) : w.cell? ⟨(tw ts i).b, 0, none⟩ = some (.int .i64 (tw ts i).p.1) /\ w.cell? ⟨(tw ts i).b, 1, none⟩ = some (.int .i64 (tw ts i).p.2) /\ w.cell? ⟨(tw ts i).b, 2, none⟩ = some (.slice (some ⟨(tw ts i).g, 0, none⟩) (tw ts i).h (tw ts i).h) :=
 ⟨(h.tow i hi).cell 0, (h.tow i hi).cell 1, (h.tow i hi).cell 2⟩
end
structure SK (w : World) (s : Nat) (ts : List Tw) (B : Nat) : Prop where
 f : SKF w (lnk ts) ts B
 stk : BC w s tS [.pointer (some ⟨(tw ts 0).b, 0, none⟩), .int .i64 0, .int .i64 ((ts.length - 1 : Nat) : Int)]
 hs : B <= s
 pos : 0 < ts.length
 len : ts.length <= 201
 head : (tw ts 0).h = 12
 hts : ∀ i, 0 < i -> i < ts.length -> ((tw ts i).h : Int) = hgtF (tw ts i).p.1 /\ 0 < (tw ts i).h /\ (tw ts i).h <= 12
 up : ∀ i j, 0 < i -> i < j -> j < ts.length -> (tw ts i).p.1 < (tw ts j).p.1
section
variable {w w' : World} {s : Nat} {ts : List Tw} {B : Nat}
theorem SK.keep (h : SK w s ts B) (hk : ∀ i t cs, (t = tT ∨ t = tL ∨ t = tS) -> B <= i -> BC w i t cs -> BC w' i t cs) : SK w' s ts B :=
 ⟨h.f.keep fun i t cs ht hi hb => hk i t cs (by rcases ht with h | h; exact .inl h; exact .inr (.inl h)) hi hb, hk _ _ _ (.inr (.inr rfl)) h.hs h.stk, h.hs, h.pos, h.len, h.head, h.hts, h.up⟩
theorem SK.kp (h : SK w s ts B) (hk : Kp w w') : SK w' s ts B := h.keep fun _ _ _ _ _ hb => hb.kp hk
theorem SK.h12 (h : SK w s ts B) {i : Nat} (hi : i < ts.length) : 0 < (tw ts i).h /\ (tw ts i).h <= 12 := by
 by_cases e : i = 0
 ·subst e; rw [h.head]; omega
 ·have := h.hts i (by omega) hi; omega
end
end Go.Proofs.YtcljlnagpjilaaaGreatDoor
