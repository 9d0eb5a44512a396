/-
  Rows above rows in the heap (SKF: towers with what their links hold; SK: a whole stack): what a store makes of them. Conditions: none.
-/
import Derived.Test.YtfojphaemfbfnaaDoorG3
import Derived.Test.YtfojphaemfbfnaaDoorG2

namespace Go.Proofs.YtfojphaemfbfnaaDoor
open Go.ChangeShapes Go.WideShapes Go.ChangeAt Go.RowKit
set_option linter.unusedVariables false
set_option linter.unusedSimpArgs false

def lkC (f : Nat → Option Addr × Nat) (h : Nat) : List Value := (List.range h).flatMap fun r => [.pointer (f r).1, .int .i64 ((f r).2 : Nat)]
theorem lkC_succ (f : Nat → Option Addr × Nat) (h : Nat) : lkC f (h + 1) = lkC f h ++ [.pointer (f h).1, .int .i64 ((f h).2 : Nat)] := by
  unfold lkC; rw [List.range_succ, List.flatMap_append]; simp
theorem lkC_len (f : Nat → Option Addr × Nat) : ∀ h, (lkC f h).length = h * 2
  | 0 => rfl
  | h + 1 => by rw [lkC_succ, List.length_append, lkC_len f h]; simp; omega
theorem lkC_at (f : Nat → Option Addr × Nat) : ∀ (h r : Nat), r < h → (lkC f h)[r * 2]? = some (.pointer (f r).1) ∧ (lkC f h)[r * 2 + 1]? = some (.int .i64 ((f r).2 : Nat))
  | 0, r, hr => by omega
  | h + 1, r, hr => by
    rw [lkC_succ]
    by_cases e : r = h
    · subst e
      rw [List.getElem?_append_right (by rw [lkC_len]; omega), List.getElem?_append_right (by rw [lkC_len]; omega), lkC_len]
      simp
    · obtain ⟨h1, h2⟩ := lkC_at f h r (by omega)
      rw [List.getElem?_append_left (by rw [lkC_len]; omega), List.getElem?_append_left (by rw [lkC_len]; omega)]
      exact ⟨h1, h2⟩
theorem lkC_congr {f f' : Nat → Option Addr × Nat} : ∀ {h : Nat}, (∀ r, r < h → f r = f' r) → lkC f h = lkC f' h
  | 0, _ => rfl
  | h + 1, e => by rw [lkC_succ, lkC_succ, lkC_congr (fun r hr => e r (by omega)), e h (by omega)]
def upd1 (f : Nat → Option Addr × Nat) (r : Nat) (x : Option Addr × Nat) : Nat → Option Addr × Nat := fun q => if q = r then x else f q
theorem lkC_set (f : Nat → Option Addr × Nat) (p : Option Addr) (n : Nat) : ∀ (h r : Nat), r < h → ((lkC f h).set (r * 2) (.pointer p)).set (r * 2 + 1) (.int .i64 (n : Nat)) = lkC (upd1 f r (p, n)) h
  | 0, r, hr => by omega
  | h + 1, r, hr => by
    rw [lkC_succ, lkC_succ]
    by_cases e : r = h
    · subst e
      have e1 : lkC (upd1 f r (p, n)) r = lkC f r := lkC_congr fun q hq => by rw [upd1, if_neg (by omega)]
      rw [e1, List.set_append_right _ _ (by rw [lkC_len]; omega), List.set_append_right _ _ (by rw [lkC_len]; omega), lkC_len]
      simp [upd1]
    · rw [List.set_append_left _ _ (by rw [lkC_len]; omega), List.set_append_left _ _ (by rw [List.length_set, lkC_len]; omega), lkC_set f p n h r (by omega)]
      rw [show upd1 f r (p, n) h = f h by rw [upd1, if_neg (by omega)]]
theorem lkC_setW (f : Nat → Option Addr × Nat) (n : Nat) : ∀ (h r : Nat), r < h → (lkC f h).set (r * 2 + 1) (.int .i64 (n : Nat)) = lkC (upd1 f r ((f r).1, n)) h
  | 0, r, hr => by omega
  | h + 1, r, hr => by
    rw [lkC_succ, lkC_succ]
    by_cases e : r = h
    · subst e
      have e1 : lkC (upd1 f r ((f r).1, n)) r = lkC f r := lkC_congr fun q hq => by rw [upd1, if_neg (by omega)]
      rw [e1, List.set_append_right _ _ (by rw [lkC_len]; omega), lkC_len]
      simp [upd1]
    · rw [List.set_append_left _ _ (by rw [lkC_len]; omega), lkC_setW f n h r (by omega)]
      rw [show upd1 f r ((f r).1, n) h = f h by rw [upd1, if_neg (by omega)]]
def twC (t : Tw) : List Value := [.int .i64 t.p.1, .int .i64 t.p.2, .slice (some ⟨t.g, 0, none⟩) t.h t.h]
def upd (F : Nat → Nat → Option Addr × Nat) (i r : Nat) (x : Option Addr × Nat) : Nat → Nat → Option Addr × Nat := fun j => if j = i then upd1 (F i) r x else F j

abbrev tT : TypeId := 76
abbrev tL : TypeId := 91
abbrev tS : TypeId := 93
theorem tT_ne_tL : tT ≠ tL := by decide
theorem tT_ne_tS : tT ≠ tS := by decide
theorem tL_ne_tS : tL ≠ tS := by decide
structure SKF (w : World) (F : Nat → Nat → Option Addr × Nat) (ts : List Tw) (B : Nat) : Prop where
  tow : ∀ i, i < ts.length → BC w (tw ts i).b tT (twC (tw ts i))
  lkb : ∀ i, i < ts.length → BC w (tw ts i).g tL (lkC (F i) (tw ts i).h)
  gdj : ∀ i j, i < ts.length → j < ts.length → (tw ts i).g = (tw ts j).g → i = j
  bdj : ∀ i j, i < ts.length → j < ts.length → (tw ts i).b = (tw ts j).b → i = j
  own : ∀ i, i < ts.length → B ≤ (tw ts i).b ∧ B ≤ (tw ts i).g
section
variable {w w' : World} {F F' : Nat → Nat → Option Addr × Nat} {ts : List Tw} {B : Nat}
theorem SKF.keep (h : SKF w F ts B) (hk : ∀ i t cs, (t = tT ∨ t = tL) → B ≤ i → BC w i t cs → BC w' i t cs) : SKF w' F ts B :=
  ⟨fun i hi => hk _ _ _ (.inl rfl) (h.own i hi).1 (h.tow i hi), fun i hi => hk _ _ _ (.inr rfl) (h.own i hi).2 (h.lkb i hi), h.gdj, h.bdj, h.own⟩
theorem SKF.kp (h : SKF w F ts B) (hk : Kp w w') : SKF w' F ts B := h.keep fun _ _ _ _ _ hb => hb.kp hk
theorem SKF.congr (h : SKF w F ts B) (e : ∀ i r, i < ts.length → r < (tw ts i).h → F i r = F' i r) : SKF w F' ts B :=
  ⟨h.tow, fun i hi => by rw [← lkC_congr (fun r hr => e i r hi hr)]; exact h.lkb i hi, h.gdj, h.bdj, h.own⟩
theorem SKF.far (h : SKF w F ts B) {p : Addr} {u : Value} (hp : ∀ t cs, BC w p.block t cs → t ≠ tT ∧ t ≠ tL) : SKF (w.setCell p u) F ts B :=
  h.keep fun i t cs ht _ hb => hb.far (fun e => by subst e; have := hp t cs hb; rcases ht with rfl | rfl; exact this.1 rfl; exact this.2 rfl)
theorem SKF.set2 (h : SKF w F ts B) {i r : Nat} (hi : i < ts.length) (hr : r < (tw ts i).h) (p : Option Addr) (n : Nat) :
    SKF ((w.setCell ⟨(tw ts i).g, r * 2, none⟩ (.pointer p)).setCell ⟨(tw ts i).g, r * 2 + 1, none⟩ (.int .i64 (n : Nat))) (upd F i r (p, n)) ts B := by
  refine ⟨fun j hj => ?_, fun j hj => ?_, h.gdj, h.bdj, h.own⟩
  · exact ((h.tow j hj).far ((h.tow j hj).ne (h.lkb i hi) tT_ne_tL)).far ((h.tow j hj).ne (h.lkb i hi) tT_ne_tL)
  · by_cases e : j = i
    · subst e
      have := ((h.lkb j hj).set (j := r * 2) (u := .pointer p)).set (j := r * 2 + 1) (u := .int .i64 (n : Nat))
      rw [lkC_set _ _ _ _ _ hr] at this
      rw [upd, if_pos rfl]; exact this
    · have hne : (tw ts j).g ≠ (tw ts i).g := fun he => e (h.gdj j i hj hi he)
      rw [upd, if_neg e]
      exact ((h.lkb j hj).far hne).far hne
theorem SKF.setW (h : SKF w F ts B) {i r : Nat} (hi : i < ts.length) (hr : r < (tw ts i).h) (n : Nat) :
    SKF (w.setCell ⟨(tw ts i).g, r * 2 + 1, none⟩ (.int .i64 (n : Nat))) (upd F i r ((F i r).1, n)) ts B := by
  refine ⟨fun j hj => ?_, fun j hj => ?_, h.gdj, h.bdj, h.own⟩
  · exact (h.tow j hj).far ((h.tow j hj).ne (h.lkb i hi) tT_ne_tL)
  · by_cases e : j = i
    · subst e
      have := (h.lkb j hj).set (j := r * 2 + 1) (u := .int .i64 (n : Nat))
      rw [lkC_setW _ _ _ _ hr] at this
      rw [upd, if_pos rfl]; exact this
    · have hne : (tw ts j).g ≠ (tw ts i).g := fun he => e (h.gdj j i hj hi he)
      rw [upd, if_neg e]
      exact (h.lkb j hj).far hne
theorem SKF.link (h : SKF w F ts B) {i r : Nat} (hi : i < ts.length) (hr : r < (tw ts i).h) : w.cell? ⟨(tw ts i).g, r * 2, none⟩ = some (.pointer (F i r).1) ∧ w.cell? ⟨(tw ts i).g, r * 2 + 1, none⟩ = some (.int .i64 ((F i r).2 : Nat)) := by
  obtain ⟨h1, h2⟩ := lkC_at (F i) _ r hr
  exact ⟨((h.lkb i hi).cell _).trans h1, ((h.lkb i hi).cell _).trans h2⟩
theorem SKF.tower (h : SKF w F ts B) {i : Nat} (hi : i < ts.length) : w.cell? ⟨(tw ts i).b, 0, none⟩ = some (.int .i64 (tw ts i).p.1) ∧ w.cell? ⟨(tw ts i).b, 1, none⟩ = some (.int .i64 (tw ts i).p.2) ∧ w.cell? ⟨(tw ts i).b, 2, none⟩ = some (.slice (some ⟨(tw ts i).g, 0, none⟩) (tw ts i).h (tw ts i).h) :=
  ⟨(h.tow i hi).cell 0, (h.tow i hi).cell 1, (h.tow i hi).cell 2⟩
end
/-- A stack: towers with their links, the first without a key, the others in order, each as high as its key says. -/
structure SK (w : World) (s : Nat) (ts : List Tw) (B : Nat) : Prop where
  f : SKF w (lnk ts) ts B
  stk : BC w s tS [.pointer (some ⟨(tw ts 0).b, 0, none⟩), .int .i64 0, .int .i64 ((ts.length - 1 : Nat) : Int)]
  hs : B ≤ s
  pos : 0 < ts.length
  len : ts.length ≤ 201
  head : (tw ts 0).h = 12
  hts : ∀ i, 0 < i → i < ts.length → ((tw ts i).h : Int) = hgtF (tw ts i).p.1 ∧ 0 < (tw ts i).h ∧ (tw ts i).h ≤ 12
  up : ∀ i j, 0 < i → i < j → j < ts.length → (tw ts i).p.1 < (tw ts j).p.1
section
variable {w w' : World} {s : Nat} {ts : List Tw} {B : Nat}
theorem SK.keep (h : SK w s ts B) (hk : ∀ i t cs, (t = tT ∨ t = tL ∨ t = tS) → B ≤ i → BC w i t cs → BC w' i t cs) : SK w' s ts B :=
  ⟨h.f.keep fun i t cs ht hi hb => hk i t cs (by rcases ht with h | h; exact .inl h; exact .inr (.inl h)) hi hb, hk _ _ _ (.inr (.inr rfl)) h.hs h.stk, h.hs, h.pos, h.len, h.head, h.hts, h.up⟩
theorem SK.kp (h : SK w s ts B) (hk : Kp w w') : SK w' s ts B := h.keep fun _ _ _ _ _ hb => hb.kp hk
theorem SK.h12 (h : SK w s ts B) {i : Nat} (hi : i < ts.length) : 0 < (tw ts i).h ∧ (tw ts i).h ≤ 12 := by
  by_cases e : i = 0
  · subst e; rw [h.head]; omega
  · have := h.hts i (by omega) hi; omega
end
end Go.Proofs.YtfojphaemfbfnaaDoor
