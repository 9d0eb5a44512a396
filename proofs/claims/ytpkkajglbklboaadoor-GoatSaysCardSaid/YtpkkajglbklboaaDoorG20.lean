/-
  Rows above rows: what putting and cutting a tower makes of the links, row by row. No program. Conditions: none.
  A result of type api.Ans that stands in a cell of the call's own: its block after the store, what is kept. Conditions: none.
  Rows above rows in the heap: what a call that changes a stack leaves (KQ); a tower put in, cut, given another value. Conditions: none.
  Small laws for the walks of skip.stack: a store that fills a fresh block; make([]link, h); find with nobody to be told; where the key stands. Conditions: none.
  Rows above rows: what cutting a tower makes of the links, row by row. Conditions: none.
-/
import Derived.Test.YtpkkajglbklboaaDoorG19
import Derived.Test.YtpkkajglbklboaaDoorG11
import Derived.Test.YtpkkajglbklboaaDoorG2
import Derived.Laws.Tables

namespace Go.Proofs.YtpkkajglbklboaaDoor
open Go.ChangeShapes Go.WideShapes Go.ChangeAt Go.RowKit
set_option linter.unusedVariables false
set_option linter.unusedSimpArgs false

/-- The pairs of a stack. -/
def pL (ts : List Tw) : List IP := (ts.drop 1).map Tw.p
theorem pL_len (ts : List Tw) : (pL ts).length = ts.length - 1 := by simp [pL]
theorem pL_at (ts : List Tw) (k : Nat) (h : k < (pL ts).length) : (pL ts)[k] = (tw ts (k + 1)).p := by
  have hk : k + 1 < ts.length := by rw [pL_len] at h; omega
  simp only [pL, List.getElem_map, List.getElem_drop]
  rw [tw, List.getD_eq_getElem?_getD, show k + 1 = 1 + k from by omega, List.getElem?_eq_getElem (by omega)]
  rfl
section
variable {w : World} {s : Nat} {ts : List Tw} {B : Nat} {key : Int}
theorem SK.rise (h : SK w s ts B) : Rise (pL ts) := fun i j hi hj hij => by
  rw [pL_at _ _ hi, pL_at _ _ hj]
  rw [pL_len] at hi hj
  exact h.up (i + 1) (j + 1) (by omega) (by omega) (by omega)
theorem isP_pF (h : SK w s ts B) {r : Nat} (hr : r < 12) : IsP ts key r (pF ts key r) := by
  obtain ⟨a1, a2, a3⟩ : pF ts key r < ts.length ∧ r < (tw ts (pF ts key r)).h ∧ (pF ts key r = 0 ∨ (tw ts (pF ts key r)).p.1 < key) := by
    rcases pFn_is (ts := ts) (key := key) (r := r) (by rw [h.head]; omega) ts.length (Nat.le_refl _) with e | ⟨h1, h2, h3⟩
    · have e : pF ts key r = 0 := e
      rw [e, h.head]
      exact ⟨h.pos, by omega, .inl rfl⟩
    · exact ⟨h1, h2, .inr h3⟩
  refine ⟨a1, a2, a3, fun m h1 h2 h3 => ?_⟩
  have key_of : ∀ n, n ≤ ts.length → m < n → pFn ts key r n < m → key ≤ (tw ts m).p.1 := by
    intro n
    induction n with
    | zero => intro _ h; omega
    | succ n ih =>
      intro hn hm hp
      unfold pFn at hp
      split at hp
      · omega
      · next hc =>
        by_cases e : m = n
        · subst e
          exact Int.not_lt.1 (fun hlt => hc ⟨h3, hlt⟩)
        · exact ih (by omega) (by omega) hp
  exact key_of ts.length (Nat.le_refl _) h2 h1
theorem pF_below (h : SK w s ts B) : pF ts key 0 = below (pL ts) key := by
  have hb := below_cut (pL ts) h.rise key
  have hl : below (pL ts) key ≤ (pL ts).length := List.length_filter_le _ _
  have hl2 := pL_len ts
  have hpos := h.pos
  refine IsP.eq ⟨by omega, (h.h12 (by omega)).1, ?_, fun m h1 h2 h3 => ?_⟩ (.inr trivial)
  · by_cases e : below (pL ts) key = 0
    · exact .inl e
    · have := (hb (below (pL ts) key - 1) (by omega)).1 (by omega)
      rw [pL_at, show below (pL ts) key - 1 + 1 = below (pL ts) key from by omega] at this
      exact .inr this
  · have h4 : ¬ (pL ts)[m - 1].1 < key := fun hc => by have := (hb (m - 1) (by omega)).2 hc; omega
    rw [pL_at, show m - 1 + 1 = m from by omega] at h4
    omega
theorem pF_le (h : SK w s ts B) {r : Nat} (hr : r < 12) : pF ts key r ≤ pF ts key 0 := by
  obtain ⟨a1, a2, a3, a4⟩ := isP_pF (key := key) h hr
  obtain ⟨b1, b2, b3, b4⟩ := isP_pF (key := key) h (r := 0) (by omega)
  by_cases e : pF ts key 0 < pF ts key r
  · have := b4 _ e a1 (by omega)
    rcases a3 with a3 | a3 <;> omega
  · omega
/-- Between the last lower tower of a row and the place of the key no tower has the row. -/
theorem pF_gap (h : SK w s ts B) {r : Nat} (hr : r < 12) : ∀ x, pF ts key r < x → x < pF ts key 0 + 1 → (tw ts x).h ≤ r := fun x h1 h2 => by
  obtain ⟨a1, a2, a3, a4⟩ := isP_pF (key := key) h hr
  obtain ⟨b1, b2, b3, b4⟩ := isP_pF (key := key) h (r := 0) (by omega)
  by_cases e : r < (tw ts x).h
  · have := a4 x h1 (by omega) e
    by_cases e2 : x = pF ts key 0
    · subst e2; rcases b3 with b3 | b3 <;> omega
    · have := h.up x (pF ts key 0) (by omega) (by omega) b1
      rcases b3 with b3 | b3 <;> omega
  · omega
end
def Fq (ts : List Tw) (c : Nat) (t : Tw) (q : Nat) : Nat → Nat → Option Addr × Nat := fun j r =>
  if r < q then lnk (insT ts c t) j r else if j = c then (none, 0) else lnk ts (if j < c then j else j - 1) r
section
variable {ts : List Tw} {c q p : Nat} {t : Tw}
theorem fq_self (j : Nat) : Fq ts c t q j q = if j = c then (none, 0) else lnk ts (if j < c then j else j - 1) q := by
  unfold Fq; rw [if_neg (show ¬ q < q by omega)]
theorem fq_new {r : Nat} (j : Nat) (h : r < q) : Fq ts c t q j r = lnk (insT ts c t) j r := by unfold Fq; rw [if_pos h]
theorem fq_big {r : Nat} (j : Nat) (h : ¬ r < q) : Fq ts c t q j r = if j = c then (none, 0) else lnk ts (if j < c then j else j - 1) r := by unfold Fq; rw [if_neg h]
theorem fq_step (hc : c ≤ ts.length) (h0 : 0 < c) (hp : p < c) (hpq : q < (tw ts p).h) (hb : ∀ x, p < x → x < c → (tw ts x).h ≤ q) (F : Nat → Nat → Option Addr × Nat)
    (h1 : q < t.h → F = upd (upd (Fq ts c t q) c q ((lnk ts p q).1, p + (lnk ts p q).2 + 1 - c)) p q (some ⟨t.b, 0, none⟩, c - p))
    (h2 : t.h ≤ q → F = upd (Fq ts c t q) p q ((lnk ts p q).1, (lnk ts p q).2 + 1)) :
    ∀ j r, j < (insT ts c t).length → r < (tw (insT ts c t) j).h → F j r = Fq ts c t (q + 1) j r := by
  intro j r hj hr
  rw [insT_len hc] at hj
  by_cases er : r = q
  · subst er
    rw [fq_new j (show r < r + 1 by omega)]
    by_cases hh : r < t.h
    · rw [h1 hh]
      by_cases ej : j = p
      · subst ej; rw [upd, if_pos rfl, upd1, if_pos rfl, lnk_ins_high hc hp hb hh]
      · rw [upd, if_neg ej]
        by_cases ec : j = c
        · subst ec; rw [upd, if_pos rfl, upd1, if_pos rfl, lnk_ins_at hc h0 hp hb]
        · rw [upd, if_neg ec, fq_self, if_neg ec]
          by_cases el : j < c
          · rw [if_pos el]
            rw [tw_ins hc, if_pos el] at hr
            have hjp : j < p := by
              by_cases e : p < j
              · have := hb j e el; omega
              · omega
            rw [lnk_ins_lt hc hjp hp hpq]
          · rw [if_neg el, lnk_ins_gt hc h0 (by omega) (by omega)]
    · rw [h2 (by omega)]
      by_cases ej : j = p
      · subst ej; rw [upd, if_pos rfl, upd1, if_pos rfl, lnk_ins_low hc hp hb (by omega)]
      · rw [upd, if_neg ej]
        by_cases ec : j = c
        · subst ec
          rw [tw_ins hc, if_neg (by omega), if_pos rfl] at hr
          omega
        · rw [fq_self, if_neg ec]
          by_cases el : j < c
          · rw [if_pos el]
            rw [tw_ins hc, if_pos el] at hr
            have hjp : j < p := by
              by_cases e : p < j
              · have := hb j e el; omega
              · omega
            rw [lnk_ins_lt hc hjp hp hpq]
          · rw [if_neg el, lnk_ins_gt hc h0 (by omega) (by omega)]
  · have key : F j r = Fq ts c t q j r := by
      by_cases hh : q < t.h
      · rw [h1 hh]
        by_cases ej : j = p
        · subst ej
          rw [upd, if_pos rfl, upd1, if_neg er]
          by_cases ec : j = c
          · omega
          · rw [upd, if_neg ec]
        · rw [upd, if_neg ej]
          by_cases ec : j = c
          · subst ec; rw [upd, if_pos rfl, upd1, if_neg er]
          · rw [upd, if_neg ec]
      · rw [h2 (by omega)]
        by_cases ej : j = p
        · subst ej; rw [upd, if_pos rfl, upd1, if_neg er]
        · rw [upd, if_neg ej]
    rw [key]
    by_cases e : r < q
    · rw [fq_new j e, fq_new j (by omega)]
    · rw [fq_big j e, fq_big j (by omega)]
theorem fq_done (ts : List Tw) (c : Nat) (t : Tw) (j r : Nat) (hr : r < 12) : Fq ts c t 12 j r = lnk (insT ts c t) j r := fq_new j hr
theorem fq_old (hp : p < c) : Fq ts c t q p q = lnk ts p q := by rw [fq_self, if_neg (show ¬ p = c by omega), if_pos hp]
end
end Go.Proofs.YtpkkajglbklboaaDoor
namespace Go.Proofs.YtpkkajglbklboaaDoor
open Go.ChangeShapes Go.WideShapes Go.ChangeAt Go.RowKit
set_option linter.unusedVariables false
set_option linter.unusedSimpArgs false

section
variable {w w' : World}
theorem ans_bc {g : Nat} {t : TypeId} {x0 x1 x2 x3 u0 u1 u2 u3 : Value} (hb : BC w g t [x0, x1, x2, x3]) :
    BC ((((w.setCell ⟨g, 0, none⟩ u0).setCell ⟨g, 1, none⟩ u1).setCell ⟨g, 2, none⟩ u2).setCell ⟨g, 3, none⟩ u3) g t [u0, u1, u2, u3] := by
  have := (((hb.set (j := 0) (u := u0)).set (j := 1) (u := u1)).set (j := 2) (u := u2)).set (j := 3) (u := u3)
  simpa using this
theorem Kf.ans4 {F : Nat → Prop} {a : World} (h : Kf F a w) {g : Nat} (hg : a.heap.size ≤ g) {u0 u1 u2 u3 : Value} :
    Kf F a ((((w.setCell ⟨g, 0, none⟩ u0).setCell ⟨g, 1, none⟩ u1).setCell ⟨g, 2, none⟩ u2).setCell ⟨g, 3, none⟩ u3) :=
  (((h.set (p := ⟨g, 0, none⟩) (.inr hg)).set (p := ⟨g, 1, none⟩) (.inr hg)).set (p := ⟨g, 2, none⟩) (.inr hg)).set (p := ⟨g, 3, none⟩) (.inr hg)
end
theorem info_ans4 : (Tryd.prog.info? 32).map (·.size) = some 4 := by kernel_rfl
end Go.Proofs.YtpkkajglbklboaaDoor
namespace Go.Proofs.YtpkkajglbklboaaDoor
open Go.ChangeShapes Go.WideShapes Go.ChangeAt Go.RowKit
set_option linter.unusedVariables false
set_option linter.unusedSimpArgs false

/-- A block of a stack. -/
def SkB (w : World) (i : Nat) : Prop := ∃ t cs, (t = tT ∨ t = tL ∨ t = tS) ∧ BC w i t cs
/-- Only blocks of stacks, from B on, may have been written. -/
def KQ (B : Nat) (w w' : World) : Prop := Kf (fun i => B ≤ i ∧ SkB w i) w w'
section
variable {B : Nat} {a b c w w' : World}
theorem KQ.refl (B : Nat) (w : World) : KQ B w w := Kf.refl _ _
theorem KQ.size (h : KQ B w w') : w.heap.size ≤ w'.heap.size := Kf.size h
theorem KQ.of (h : Kp w w') : KQ B w w' := Kf.of h
theorem SkB.back (h : KQ B a b) {i : Nat} (hi : i < a.heap.size) (hb : SkB b i) : SkB a i := by
  by_cases e : B ≤ i ∧ SkB a i
  · exact e.2
  · obtain ⟨t, cs, ht, hc⟩ := hb
    exact ⟨t, cs, ht, (Kf.block h hi e).symm.trans hc⟩
theorem KQ.trans (h : KQ B a b) (k : KQ B b c) : KQ B a c := Kf.trans h k fun i hi hg => ⟨hg.1, hg.2.back h hi⟩
theorem KQ.on (h : KQ B a b) (k : Kp b c) : KQ B a c := h.trans (KQ.of k)
theorem KQ.set {p : Addr} {u : Value} (h : KQ B a b) (hp : (B ≤ p.block ∧ SkB b p.block) ∨ a.heap.size ≤ p.block) : KQ B a (b.setCell p u) := by
  rcases hp with hp | hp
  · exact h.trans (Kf.set (Kf.refl _ _) (.inl hp))
  · exact Kf.set h (.inr hp)
theorem KQ.kp (h : KQ B w w') (k : Kp a w) (hB : a.heap.size ≤ B) : Kp a w' := Kf.kp h k fun i hi => Nat.le_trans hB hi.1
theorem KQ.bc {i : Nat} {t : TypeId} {cs : List Value} (h : KQ B w w') (hb : BC w i t cs) (h1 : t ≠ tT) (h2 : t ≠ tL) (h3 : t ≠ tS) : BC w' i t cs :=
  hb.kf h fun ⟨_, t', cs', ht, hb'⟩ => by
    have e : t = t' := by
      unfold BC at hb hb'
      rw [hb] at hb'
      injection hb' with hb'
      injection hb'
    subst e
    rcases ht with ht | ht | ht
    · exact h1 ht
    · exact h2 ht
    · exact h3 ht
theorem KQ.ow {α : Type} {B0 : Nat} {e : TypeId} {E : Enc α} {v : Value} {l : List α} (h : KQ B w w') (hv : OW w B0 e E v l) (h1 : e ≠ tT) (h2 : e ≠ tL) (h3 : e ≠ tS) : OW w' B0 e E v l :=
  hv.kf h fun k hk ⟨_, t', cs', ht, hb'⟩ => by
    have hn : e ≠ t' := by rcases ht with rfl | rfl | rfl; exact h1; exact h2; exact h3
    exact hv.bc_ne hb' hn hk
theorem KQ.db (h : KQ B w w') (hB : 0 < B) (hd : DTb w) : DTb w' := fun i hi => Kf.cell h (fun hh => by have := hh.1; simp at this; omega) (hd i hi)
end
section
variable {w w' : World} {s : Nat} {ts : List Tw} {B : Nat} {F : Nat → Nat → Option Addr × Nat}
theorem SKF.tb (h : SKF w F ts B) {i : Nat} (hi : i < ts.length) : SkB w (tw ts i).b := ⟨_, _, .inl rfl, h.tow i hi⟩
theorem SKF.lb (h : SKF w F ts B) {i : Nat} (hi : i < ts.length) : SkB w (tw ts i).g := ⟨_, _, .inr (.inl rfl), h.lkb i hi⟩
theorem SK.sb (h : SK w s ts B) : SkB w s := ⟨_, _, .inr (.inr rfl), h.stk⟩
theorem SK.other (h : SK w s ts B) {p : Addr} {u : Value} {t : TypeId} {cs : List Value} (hb : BC w p.block t cs) (h1 : t ≠ tT) (h2 : t ≠ tL) (h3 : t ≠ tS) : SK (w.setCell p u) s ts B :=
  h.keep fun i t' cs' ht _ hb' => hb'.far fun e => by
    subst e
    have hn : t ≠ t' := by rcases ht with rfl | rfl | rfl; exact h1; exact h2; exact h3
    exact hb.ne hb' hn rfl
/-- The four cells of an answer are set. -/
theorem SK.ans4 (h : SK w s ts B) {g : Nat} {t : TypeId} {cs : List Value} (hb : BC w g t cs) (h1 : t ≠ tT) (h2 : t ≠ tL) (h3 : t ≠ tS) {u0 u1 u2 u3 : Value} :
    SK ((((w.setCell ⟨g, 0, none⟩ u0).setCell ⟨g, 1, none⟩ u1).setCell ⟨g, 2, none⟩ u2).setCell ⟨g, 3, none⟩ u3) s ts B :=
  ((((h.other (p := ⟨g, 0, none⟩) hb h1 h2 h3).other (p := ⟨g, 1, none⟩) (hb.set (j := 0)) h1 h2 h3).other (p := ⟨g, 2, none⟩) ((hb.set (j := 0)).set (j := 1)) h1 h2 h3).other (p := ⟨g, 3, none⟩) (((hb.set (j := 0)).set (j := 1)).set (j := 2)) h1 h2 h3)
theorem KQ.ans4 {a : World} (h : KQ B a w) {g : Nat} (hg : a.heap.size ≤ g) {u0 u1 u2 u3 : Value} :
    KQ B a ((((w.setCell ⟨g, 0, none⟩ u0).setCell ⟨g, 1, none⟩ u1).setCell ⟨g, 2, none⟩ u2).setCell ⟨g, 3, none⟩ u3) :=
  (((h.set (p := ⟨g, 0, none⟩) (.inr hg)).set (p := ⟨g, 1, none⟩) (.inr hg)).set (p := ⟨g, 2, none⟩) (.inr hg)).set (p := ⟨g, 3, none⟩) (.inr hg)
end

/-! Another value. -/
def setT (ts : List Tw) (i : Nat) (v : Int) : List Tw := ts.set i { tw ts i with p := ((tw ts i).p.1, v) }
theorem setT_len (ts : List Tw) (i : Nat) (v : Int) : (setT ts i v).length = ts.length := by simp [setT]
theorem tw_set {ts : List Tw} {i : Nat} (hi : i < ts.length) (v : Int) (m : Nat) : tw (setT ts i v) m = if m = i then { tw ts i with p := ((tw ts i).p.1, v) } else tw ts m := by
  unfold setT
  unfold tw
  simp only [List.getD_eq_getElem?_getD, List.getElem?_set]
  by_cases e : i = m
  · subst e; simp [hi]
  · rw [if_neg e, if_neg (fun h => e h.symm)]
theorem tw_set_h {ts : List Tw} {i : Nat} (hi : i < ts.length) (v : Int) (m : Nat) : (tw (setT ts i v) m).h = (tw ts m).h ∧ (tw (setT ts i v) m).b = (tw ts m).b ∧ (tw (setT ts i v) m).g = (tw ts m).g ∧ (tw (setT ts i v) m).p.1 = (tw ts m).p.1 := by
  rw [tw_set hi]
  by_cases e : m = i
  · subst e; rw [if_pos rfl]; exact ⟨rfl, rfl, rfl, rfl⟩
  · rw [if_neg e]; exact ⟨rfl, rfl, rfl, rfl⟩
theorem nj_set {ts : List Tw} {i : Nat} (hi : i < ts.length) (v : Int) (j r : Nat) (hj : j < ts.length) : nj (setT ts i v) j r = nj ts j r := by
  obtain ⟨f1, f2, f3, f4⟩ := nj_facts ts j r hj
  refine nj_eq f1 (by rw [setT_len]; exact f2) (fun x h1 h2 => ?_) (fun h => ?_)
  · rw [(tw_set_h hi v x).1]; exact f3 x h1 h2
  · rw [(tw_set_h hi v _).1]; exact f4 (by rw [setT_len] at h; exact h)
theorem lnk_set {ts : List Tw} {i : Nat} (hi : i < ts.length) (v : Int) (j r : Nat) (hj : j < ts.length) : lnk (setT ts i v) j r = lnk ts j r := by
  unfold lnk
  rw [nj_set hi v j r hj, setT_len, (tw_set_h hi v _).2.1]
theorem SK.setV {w : World} {s : Nat} {ts : List Tw} {B : Nat} (h : SK w s ts B) {i : Nat} (hi : i < ts.length) (v : Int) : SK (w.setCell ⟨(tw ts i).b, 1, none⟩ (.int .i64 v)) s (setT ts i v) B := by
  have e4 := tw_set_h hi v
  refine ⟨⟨fun j hj => ?_, fun j hj => ?_, fun j k hj hk => ?_, fun j k hj hk => ?_, fun j hj => ?_⟩, ?_, h.hs, by rw [setT_len]; exact h.pos, by rw [setT_len]; exact h.len, by rw [(e4 0).1]; exact h.head, fun j h1 h2 => ?_, fun j k h1 h2 h3 => ?_⟩
  · rw [setT_len] at hj
    rw [(e4 j).2.1]
    by_cases e : j = i
    · subst e
      have := (h.f.tow j hj).set (j := 1) (u := .int .i64 v)
      rw [show (twC (tw ts j)).set 1 (.int .i64 v) = twC (tw (setT ts j v) j) by rw [tw_set hj, if_pos rfl]; rfl] at this
      exact this
    · rw [show tw (setT ts i v) j = tw ts j by rw [tw_set hi, if_neg e]]
      exact (h.f.tow j hj).far fun e' => e (h.f.bdj j i hj hi e')
  · rw [setT_len] at hj
    rw [(e4 j).2.2.1, (e4 j).1, lkC_congr (f' := lnk ts j) (fun r hr => lnk_set hi v j r hj)]
    exact (h.f.lkb j hj).far ((h.f.lkb j hj).ne (h.f.tow i hi) (Ne.symm tT_ne_tL))
  · rw [setT_len] at hj hk
    rw [(e4 j).2.2.1, (e4 k).2.2.1]; exact h.f.gdj j k hj hk
  · rw [setT_len] at hj hk
    rw [(e4 j).2.1, (e4 k).2.1]; exact h.f.bdj j k hj hk
  · rw [setT_len] at hj
    rw [(e4 j).2.1, (e4 j).2.2.1]; exact h.f.own j hj
  · rw [setT_len, (e4 0).2.1]
    exact h.stk.far (h.stk.ne (h.f.tow i hi) (Ne.symm tT_ne_tS))
  · rw [setT_len] at h2
    rw [(e4 j).1, (e4 j).2.2.2]; exact h.hts j h1 h2
  · rw [setT_len] at h3
    rw [(e4 j).2.2.2, (e4 k).2.2.2]; exact h.up j k h1 h2 h3
theorem pL_set {ts : List Tw} {i : Nat} (hi : i + 1 < ts.length) (v : Int) : pL (setT ts (i + 1) v) = (pL ts).set i ((tw ts (i + 1)).p.1, v) := by
  apply List.ext_getElem
  · simp [pL_len, setT_len]
  · intro k h1 h2
    rw [pL_at, tw_set hi, List.getElem_set]
    rw [pL_len, setT_len] at h1
    by_cases e : i = k
    · subst e; rw [if_pos rfl, if_pos rfl]
    · rw [if_neg (by omega), if_neg e, pL_at]

/-! A tower put in. -/
theorem SKF.ins {w : World} {ts : List Tw} {B c : Nat} {t : Tw} (h : SKF w (lnk ts) ts B) (hc : c ≤ ts.length) (h1 : BC w t.b tT (twC t)) (h2 : BC w t.g tL (lkC (fun _ => (none, 0)) t.h))
    (hb : ∀ i, i < ts.length → (tw ts i).b ≠ t.b) (hg : ∀ i, i < ts.length → (tw ts i).g ≠ t.g) (hB : B ≤ t.b ∧ B ≤ t.g) : SKF w (Fq ts c t 0) (insT ts c t) B := by
  have key : ∀ j, j < (insT ts c t).length → tw (insT ts c t) j = t ∧ j = c ∨ ∃ k, k < ts.length ∧ tw (insT ts c t) j = tw ts k ∧ j ≠ c ∧ k = (if j < c then j else j - 1) := fun j hj => by
    rw [insT_len hc] at hj
    rw [tw_ins hc]
    by_cases e1 : j < c
    · rw [if_pos e1]; exact .inr ⟨j, by omega, rfl, by omega, by rw [if_pos e1]⟩
    · rw [if_neg e1]
      by_cases e2 : j = c
      · rw [if_pos e2]; exact .inl ⟨rfl, e2⟩
      · rw [if_neg e2]; exact .inr ⟨j - 1, by omega, rfl, e2, by rw [if_neg e1]⟩
  refine ⟨fun j hj => ?_, fun j hj => ?_, fun j k hj hk e => ?_, fun j k hj hk e => ?_, fun j hj => ?_⟩
  · rcases key j hj with ⟨e, _⟩ | ⟨k, hk, e, _⟩
    · rw [e]; exact h1
    · rw [e]; exact h.tow k hk
  · rcases key j hj with ⟨e, e2⟩ | ⟨k, hk, e, e2, e3⟩
    · rw [e, lkC_congr (f' := fun _ => (none, 0)) (fun r _ => by rw [fq_big j (by omega), if_pos e2])]; exact h2
    · rw [e, lkC_congr (f' := lnk ts k) (fun r _ => by rw [fq_big j (by omega), if_neg e2, ← e3])]; exact h.lkb k hk
  · rcases key j hj with ⟨e1, e2⟩ | ⟨k1, hk1, e1, e2, e3⟩
    · rcases key k hk with ⟨f1, f2⟩ | ⟨k2, hk2, f1, f2, f3⟩
      · omega
      · rw [e1, f1] at e; exact absurd e.symm (hg k2 hk2)
    · rcases key k hk with ⟨f1, f2⟩ | ⟨k2, hk2, f1, f2, f3⟩
      · rw [e1, f1] at e; exact absurd e (hg k1 hk1)
      · rw [e1, f1] at e
        have := h.gdj k1 k2 hk1 hk2 e
        split at e3 <;> split at f3 <;> omega
  · rcases key j hj with ⟨e1, e2⟩ | ⟨k1, hk1, e1, e2, e3⟩
    · rcases key k hk with ⟨f1, f2⟩ | ⟨k2, hk2, f1, f2, f3⟩
      · omega
      · rw [e1, f1] at e; exact absurd e.symm (hb k2 hk2)
    · rcases key k hk with ⟨f1, f2⟩ | ⟨k2, hk2, f1, f2, f3⟩
      · rw [e1, f1] at e; exact absurd e (hb k1 hk1)
      · rw [e1, f1] at e
        have := h.bdj k1 k2 hk1 hk2 e
        split at e3 <;> split at f3 <;> omega
  · rcases key j hj with ⟨e, _⟩ | ⟨k, hk, e, _⟩
    · rw [e]; exact hB
    · rw [e]; exact h.own k hk
theorem pL_ins {ts : List Tw} {c : Nat} {t : Tw} (hc : c + 1 ≤ ts.length) : pL (insT ts (c + 1) t) = (pL ts).take c ++ [t.p] ++ (pL ts).drop c := by
  cases ts with
  | nil => simp at hc
  | cons a l => simp [pL, insT]
end Go.Proofs.YtpkkajglbklboaaDoor
namespace Go.Proofs.YtpkkajglbklboaaDoor
open Go.ChangeShapes Go.WideShapes Go.ChangeAt Go.RowKit
set_option linter.unusedVariables false
set_option linter.unusedSimpArgs false

theorem setRow_alloc (w : World) (old cells : Array Value) (t : TypeId) : (w.alloc (.cells old t)).setRow w.heap.size cells = w.alloc (.cells cells t) := by
  have hm : ∀ (x : Obj) (f : Obj → Obj), (w.heap.push x).modify w.heap.size f = w.heap.push (f x) := fun x f => by
    apply Array.ext_getElem?
    intro i
    rw [Array.getElem?_modify, Array.getElem?_push, Array.getElem?_push]
    by_cases e : w.heap.size = i
    · subst e; simp
    · rw [if_neg e, if_neg (fun h => e h.symm), if_neg (fun h => e h.symm)]
  unfold World.setRow World.alloc
  rw [hm]
theorem wpList_store_new {P : Program} {ops : Array Oper} {rest : List Oper} {o : Oper} {a : Act} {w W : World} {Q : Exit → Act → World → Prop} {old : Array Value} (hgd : o.guard = none) (ty : TypeId) (x y : Operand) (ho : o.op = .store ty x y)
    (cells : Array Value) (t : TypeId) (hx : a.eval x = .pointer (some ⟨w.heap.size, 0, none⟩)) (hy : a.eval y = .agg cells) (hi : (P.info? ty).map (·.size) = some cells.size)
    (hold : old.size = cells.size) (h1 : cells.all (·.oneCell') = true) (hW : W = w.alloc (.cells cells t))
    (h : wpList P ops Q rest (a.put o.dst undef) W) : wpList P ops Q (o :: rest) a (w.alloc (.cells old t)) :=
  wpList_store_row hgd ty x y ho w.heap.size cells hx hy t old (heap_alloc_new w _) hi hold h1 (by rw [setRow_alloc, ← hW]; exact h)

def eLk : Enc (Option Addr × Nat) := ⟨2, fun x => [.pointer x.1, .int .i64 (x.2 : Nat)], fun _ => rfl, fun _ u h => by simp at h; rcases h with rfl | rfl <;> rfl⟩
set_option maxRecDepth 100000 in
theorem info_lk : (Tryd.prog.info? 121).map (fun i => (i.zero, i.size, i.bytes)) = some (some (.agg #[.pointer none, .int .i64 0]), 2, 16) := by kernel_rfl
theorem row_lk : Row Tryd.prog 122 121 eLk 16 := row_of info_lk Tryd.underlying122 rfl rfl (by decide)
theorem zero_lk : ∀ i z, Tryd.prog.info? 121 = some i → i.zero = some z → z.cells.toList = eLk.cells (none, 0) := zero_of info_lk rfl
theorem lkC_rep : ∀ n, (List.replicate n ((none, 0) : Option Addr × Nat)).flatMap eLk.cells = lkC (fun _ => (none, 0)) n
  | 0 => rfl
  | n + 1 => by rw [lkC_succ, ← lkC_rep n, List.replicate_succ', List.flatMap_append]; rfl
theorem mk_links (h : Nat) (hh : h ≤ 12) : ∃ C : Array Value, Hid (C = (lkC (fun _ => (none, 0)) h).toArray) ∧ ∀ W : World, (Instr.makeSlice 122 (.int .i64 (h : Int)) (.int .i64 (h : Int))).run Tryd.prog W = .ok (.slice (some ⟨W.heap.size, 0, none⟩) h h) (W.alloc (.cells C 121)) := by
  obtain ⟨C, h1, h2⟩ := run_mk row_lk ((none, 0) : Option Addr × Nat) zero_lk h (by omega) (by unfold maxLen; omega)
  exact ⟨C, hide (by rw [h1.out, lkC_rep]), h2⟩

def FkPost (ts : List Tw) (key : Int) (w : World) (e : Ending) (w' : World) : Prop := e = .returned (.agg (trC ts key 0).toArray) ∧ Kp w w'
set_option maxRecDepth 100000 in
theorem nobody_any (a b : Value) (w : World) : Calls Tryd.prog 76 #[a, b] w (fun e w' => e = .returned (.tuple #[]) ∧ w = w') := by
  go_enter Tryd.func76, Tryd.ntmps76
  go_wp2
  refine bodyPost_end (v := .tuple #[]) ?_ ?_ ?_
  · simp [results, Tryd.results76, go_sem]
  · rfl
  · exact ⟨rfl, rfl⟩
theorem find_kp (s : Nat) (ts : List Tw) (key : Int) (w : World) (B : Nat) (h : SK w s ts B) :
    Calls Tryd.prog 75 #[.pointer (some ⟨s, 0, none⟩), .int .i64 key, .func (.func 76) #[] #[]] w (FkPost ts key w) := by
  refine (find_nobody s ts key w B w.heap.size (fun _ _ => True) h (Nat.le_refl _) trivial (fun W st r i _ _ _ _ _ => (nobody_any _ _ W).mono ?_) (fun _ _ _ _ _ => trivial)).mono ?_
  · rintro e w' ⟨rfl, rfl⟩
    exact ⟨rfl, trivial, KW.refl _ _⟩
  · rintro e w' ⟨rfl, _, hk⟩
    exact ⟨rfl, hk.2.2 w (Nat.le_refl _) (Kp.refl _)⟩

section
variable {w : World} {s : Nat} {ts : List Tw} {B : Nat} {key : Int}
theorem nj_0 (h : SK w s ts B) {i : Nat} (hi : i < ts.length) : nj ts i 0 = i + 1 := by
  obtain ⟨f1, f2, f3, f4⟩ := nj_facts ts i 0 hi
  by_cases e : i + 1 < nj ts i 0
  · have := f3 (i + 1) (by omega) e
    have := (h.h12 (i := i + 1) (by omega)).1
    omega
  · omega
theorem lnk_0 (h : SK w s ts B) {i : Nat} (hi : i < ts.length) : (lnk ts i 0).1 = if i + 1 < ts.length then some ⟨(tw ts (i + 1)).b, 0, none⟩ else none := by
  unfold lnk
  rw [nj_0 h hi]
/-- The key stands behind its place, or nowhere. -/
theorem sk_has (h : SK w s ts B) : hasKey (pL ts) key = true ↔ (pF ts key 0 + 1 < ts.length ∧ (tw ts (pF ts key 0 + 1)).p.1 = key) := by
  rw [hasKey_iff (pL ts) h.rise key, pF_below h]
  constructor
  · rintro ⟨hb, he⟩
    rw [pL_at] at he
    rw [pL_len] at hb
    exact ⟨by omega, he⟩
  · rintro ⟨hb, he⟩
    exact ⟨by rw [pL_len]; omega, by rw [pL_at]; exact he⟩
theorem SK.len_lt (h : SK w s ts B) : pF ts key 0 < ts.length := (isP_pF (key := key) h (r := 0) (by omega)).1
end
theorem trC_at (ts : List Tw) (key : Int) (q : Nat) (hq : q < 12) : (trC ts key 0)[q]? = some (.pointer (some ⟨(tw ts (pF ts key q)).b, 0, none⟩)) ∧ (trC ts key 0)[12 + q]? = some (.int .i64 (pF ts key q : Nat)) := by
  unfold trC
  constructor
  · rw [List.getElem?_append_left (by simp; omega)]
    simp [hq]
  · rw [List.getElem?_append_right (by simp)]
    simp [hq]
theorem hgt_nat (key : Int) : ∃ h : Nat, (h : Int) = hgtF key ∧ 0 < h ∧ h ≤ 12 := by
  have := hgtF_in key
  exact ⟨(hgtF key).toNat, by omega, by omega, by omega⟩
set_option maxRecDepth 100000 in
section
variable {w : World} {F : Nat → Nat → Option Addr × Nat} {ts : List Tw} {B c q : Nat} {t : Tw}
theorem SKF.at_new (h : SKF w F (insT ts c t) B) (hc : c ≤ ts.length) : BC w t.b tT (twC t) ∧ BC w t.g tL (lkC (F c) t.h) ∧ B ≤ t.b ∧ B ≤ t.g := by
  have e : tw (insT ts c t) c = t := by rw [tw_ins hc, if_neg (by omega), if_pos rfl]
  have hl : c < (insT ts c t).length := by rw [insT_len hc]; omega
  have h1 := h.tow c hl
  have h2 := h.lkb c hl
  have h3 := h.own c hl
  rw [e] at h1 h2 h3
  exact ⟨h1, h2, h3⟩
theorem SKF.at_old (h : SKF w F (insT ts c t) B) (hc : c ≤ ts.length) {p : Nat} (hp : p < c) : BC w (tw ts p).b tT (twC (tw ts p)) ∧ BC w (tw ts p).g tL (lkC (F p) (tw ts p).h) ∧ (tw ts p).g ≠ t.g ∧ B ≤ (tw ts p).b ∧ B ≤ (tw ts p).g := by
  have e : tw (insT ts c t) p = tw ts p := by rw [tw_ins hc, if_pos hp]
  have e2 : tw (insT ts c t) c = t := by rw [tw_ins hc, if_neg (by omega), if_pos rfl]
  have hl : c < (insT ts c t).length := by rw [insT_len hc]; omega
  have hl2 : p < (insT ts c t).length := by omega
  have h1 := h.tow p hl2
  have h2 := h.lkb p hl2
  have h3 := h.own p hl2
  have h4 := h.gdj p c hl2 hl
  rw [e] at h1 h2 h3 h4
  rw [e2] at h4
  exact ⟨h1, h2, fun h5 => by have := h4 h5; omega, h3⟩
theorem lnk_past (hc : c ≤ ts.length) (h0 : 0 < c) {p r : Nat} (hp : p < c) (hb : ∀ x, p < x → x < c → (tw ts x).h ≤ r) : c ≤ p + (lnk ts p r).2 + 1 := by
  obtain ⟨f1, f2, f3, f4⟩ := nj_facts ts p r (by omega)
  have hge : c ≤ nj ts p r := by
    by_cases h : nj ts p r < c
    · have := hb _ f1 h
      have := f4 (by omega)
      omega
    · omega
  unfold lnk
  simp only
  omega
/-- The store of a new link into the new tower, and of the link to it. -/
theorem SKF.put_hi (h : SKF w (Fq ts c t q) (insT ts c t) B) (hc : c ≤ ts.length) (h0 : 0 < c) {p : Nat} (hp : p < c) (hpq : q < (tw ts p).h) (hb : ∀ x, p < x → x < c → (tw ts x).h ≤ q) (hq : q < t.h) {x : Option Addr} {M D : Nat} (hx : x = (lnk ts p q).1) (hM : M = p + (lnk ts p q).2 + 1 - c) (hD : D = c - p) :
    SKF ((((w.setCell ⟨t.g, q * 2, none⟩ (.pointer x)).setCell ⟨t.g, q * 2 + 1, none⟩ (.int .i64 (M : Nat))).setCell ⟨(tw ts p).g, q * 2, none⟩ (.pointer (some ⟨t.b, 0, none⟩))).setCell ⟨(tw ts p).g, q * 2 + 1, none⟩ (.int .i64 (D : Nat))) (Fq ts c t (q + 1)) (insT ts c t) B := by
  subst hx hM hD
  have e : tw (insT ts c t) p = tw ts p := by rw [tw_ins hc, if_pos hp]
  have e2 : tw (insT ts c t) c = t := by rw [tw_ins hc, if_neg (by omega), if_pos rfl]
  have hl : c < (insT ts c t).length := by rw [insT_len hc]; omega
  have h1 := h.set2 (i := c) (r := q) hl (by rw [e2]; exact hq) (lnk ts p q).1 (p + (lnk ts p q).2 + 1 - c)
  have h2 := h1.set2 (i := p) (r := q) (by omega) (by rw [e]; exact hpq) (some ⟨t.b, 0, none⟩) (c - p)
  rw [e, e2] at h2
  exact h2.congr fun j r hj hr => fq_step hc h0 hp hpq hb _ (fun _ => rfl) (fun h => by omega) j r hj hr
theorem SKF.put_lo (h : SKF w (Fq ts c t q) (insT ts c t) B) (hc : c ≤ ts.length) (h0 : 0 < c) {p : Nat} (hp : p < c) (hpq : q < (tw ts p).h) (hb : ∀ x, p < x → x < c → (tw ts x).h ≤ q) (hq : t.h ≤ q) {D : Nat} (hD : D = (lnk ts p q).2 + 1) :
    SKF (w.setCell ⟨(tw ts p).g, q * 2 + 1, none⟩ (.int .i64 (D : Nat))) (Fq ts c t (q + 1)) (insT ts c t) B := by
  subst hD
  have e : tw (insT ts c t) p = tw ts p := by rw [tw_ins hc, if_pos hp]
  have hl2 : p < (insT ts c t).length := by rw [insT_len hc]; omega
  have h2 := h.setW (i := p) (r := q) hl2 (by rw [e]; exact hpq) ((lnk ts p q).2 + 1)
  rw [e] at h2
  refine h2.congr fun j r hj hr => fq_step hc h0 hp hpq hb _ (fun h => by omega) (fun _ => ?_) j r hj hr
  rw [fq_old hp]
end
/-- All rows are done: a stack with one tower more. -/
theorem SK.grown {w wr : World} {s : Nat} {ts : List Tw} {B c : Nat} {t : Tw} (h : SK w s ts B) (hf : SKF wr (Fq ts (c + 1) t 12) (insT ts (c + 1) t) B) (hc : c + 1 ≤ ts.length) (hl : ts.length ≤ 200)
    (hs : BC wr s tS [.pointer (some ⟨(tw ts 0).b, 0, none⟩), .int .i64 0, .int .i64 ((ts.length : Nat) : Int)]) (ht : (t.h : Int) = hgtF t.p.1 ∧ 0 < t.h ∧ t.h ≤ 12)
    (h1 : ∀ i, 0 < i → i < c + 1 → (tw ts i).p.1 < t.p.1) (h2 : ∀ i, c + 1 ≤ i → i < ts.length → t.p.1 < (tw ts i).p.1) : SK wr s (insT ts (c + 1) t) B := by
  have et := tw_ins (t := t) hc
  have e0 : tw (insT ts (c + 1) t) 0 = tw ts 0 := by rw [et, if_pos (by omega)]
  refine ⟨hf.congr fun j r hj hr => fq_done ts (c + 1) t j r ?_, ?_, h.hs, by rw [insT_len hc]; omega, by rw [insT_len hc]; omega, by rw [e0]; exact h.head, fun i hi hl2 => ?_, fun i j hi hij hl2 => ?_⟩
  · rw [insT_len hc] at hj
    rw [et] at hr
    split at hr
    · have := (h.h12 (i := j) (by omega)).2; omega
    · split at hr
      · omega
      · have := (h.h12 (i := j - 1) (by omega)).2; omega
  · rw [e0, insT_len hc, Nat.add_sub_cancel]; exact hs
  · rw [insT_len hc] at hl2
    rw [et]
    split
    · exact h.hts i hi (by omega)
    · split
      · exact ht
      · exact h.hts (i - 1) (by omega) (by omega)
  · rw [insT_len hc] at hl2
    rw [et, et]
    by_cases a1 : i < c + 1
    · rw [if_pos a1]
      by_cases b1 : j < c + 1
      · rw [if_pos b1]; exact h.up i j hi hij (by omega)
      · rw [if_neg b1]
        by_cases b2 : j = c + 1
        · rw [if_pos b2]; exact h1 i hi a1
        · rw [if_neg b2]; exact h.up i (j - 1) hi (by omega) (by omega)
    · rw [if_neg a1, if_neg (show ¬ j < c + 1 by omega), if_neg (show ¬ j = c + 1 by omega)]
      by_cases a2 : i = c + 1
      · rw [if_pos a2]; exact h2 (j - 1) (by omega) (by omega)
      · rw [if_neg a2]; exact h.up (i - 1) (j - 1) (by omega) (by omega) (by omega)
theorem sk_lower {w : World} {s : Nat} {ts : List Tw} {B : Nat} {key : Int} (h : SK w s ts B) : ∀ i, 0 < i → i < pF ts key 0 + 1 → (tw ts i).p.1 < key := fun i h1 h2 => by
  obtain ⟨a1, a2, a3, a4⟩ := isP_pF (key := key) h (r := 0) (by omega)
  by_cases e : i = pF ts key 0
  · subst e; rcases a3 with a3 | a3 <;> omega
  · have := h.up i (pF ts key 0) h1 (by omega) a1
    rcases a3 with a3 | a3 <;> omega
theorem sk_upper {w : World} {s : Nat} {ts : List Tw} {B : Nat} {key : Int} (h : SK w s ts B) (hn : hasKey (pL ts) key = false) : ∀ i, pF ts key 0 + 1 ≤ i → i < ts.length → key < (tw ts i).p.1 := fun i h1 h2 => by
  obtain ⟨a1, a2, a3, a4⟩ := isP_pF (key := key) h (r := 0) (by omega)
  have h3 := a4 (pF ts key 0 + 1) (by omega) (by omega) (h.h12 (by omega)).1
  have h4 : (tw ts (pF ts key 0 + 1)).p.1 ≠ key := fun e => by
    have := (sk_has (key := key) h).2 ⟨by omega, e⟩
    rw [hn] at this; cases this
  by_cases e : i = pF ts key 0 + 1
  · subst e; omega
  · have := h.up (pF ts key 0 + 1) i (by omega) (by omega) h2; omega
/-- The trail laid into its box. -/
theorem tr_store (ts : List Tw) (key : Int) (w W : World) (hW : W = w.alloc (.cells (trC ts key 0).toArray 135)) :
    (storeCells ⟨w.heap.size, 0, none⟩ (trC ts key 0)).run Tryd.prog (w.alloc (.cells #[.pointer none, .pointer none, .pointer none, .pointer none, .pointer none, .pointer none, .pointer none, .pointer none, .pointer none, .pointer none, .pointer none, .pointer none, .int .i64 0, .int .i64 0, .int .i64 0, .int .i64 0, .int .i64 0, .int .i64 0, .int .i64 0, .int .i64 0, .int .i64 0, .int .i64 0, .int .i64 0, .int .i64 0] 135)) = .ok () W := by
  have := run_storeCells_from (P := Tryd.prog) w.heap.size 135 (trC ts key 0) 0 #[.pointer none, .pointer none, .pointer none, .pointer none, .pointer none, .pointer none, .pointer none, .pointer none, .pointer none, .pointer none, .pointer none, .pointer none, .int .i64 0, .int .i64 0, .int .i64 0, .int .i64 0, .int .i64 0, .int .i64 0, .int .i64 0, .int .i64 0, .int .i64 0, .int .i64 0, .int .i64 0, .int .i64 0] (w.alloc (.cells #[.pointer none, .pointer none, .pointer none, .pointer none, .pointer none, .pointer none, .pointer none, .pointer none, .pointer none, .pointer none, .pointer none, .pointer none, .int .i64 0, .int .i64 0, .int .i64 0, .int .i64 0, .int .i64 0, .int .i64 0, .int .i64 0, .int .i64 0, .int .i64 0, .int .i64 0, .int .i64 0, .int .i64 0] 135)) (heap_alloc_new w _) (by simp [trC_len]) (fun v hv => (Array.all_eq_true_iff_forall_mem.1 (trC_one ts key 0)) v (by simpa using hv))
  rw [this, hW, setRow_alloc]
  simp
end Go.Proofs.YtpkkajglbklboaaDoor
namespace Go.Proofs.YtpkkajglbklboaaDoor
open Go.ChangeShapes Go.WideShapes Go.ChangeAt Go.RowKit
set_option linter.unusedVariables false
set_option linter.unusedSimpArgs false

def Gq (ts : List Tw) (c : Nat) (t : Tw) (q : Nat) : Nat → Nat → Option Addr × Nat := fun j r =>
  if j = c then lnk (insT ts c t) j r else if r < q then lnk ts (if j < c then j else j - 1) r else lnk (insT ts c t) j r
section
variable {ts : List Tw} {c q p : Nat} {t : Tw}
theorem gq_zero (j r : Nat) : Gq ts c t 0 j r = lnk (insT ts c t) j r := by unfold Gq; split <;> rfl
theorem gq_new {r : Nat} (j : Nat) (hj : j ≠ c) (h : r < q) : Gq ts c t q j r = lnk ts (if j < c then j else j - 1) r := by unfold Gq; rw [if_neg hj, if_pos h]
theorem gq_at (r : Nat) : Gq ts c t q c r = lnk (insT ts c t) c r := by unfold Gq; rw [if_pos rfl]
theorem gq_old {r : Nat} (j : Nat) (h : ¬ r < q) : Gq ts c t q j r = lnk (insT ts c t) j r := by
  unfold Gq
  split
  · rfl
  · first | rfl | rw [if_neg h]
theorem gq_step (hc : c ≤ ts.length) (h0 : 0 < c) (hp : p < c) (hpq : q < (tw ts p).h) (hb : ∀ x, p < x → x < c → (tw ts x).h ≤ q) :
    ∀ j r, j < (insT ts c t).length → r < (tw (insT ts c t) j).h → upd (Gq ts c t q) p q (lnk ts p q) j r = Gq ts c t (q + 1) j r := by
  intro j r hj hr
  rw [insT_len hc] at hj
  by_cases ej : j = p
  · subst ej
    rw [upd, if_pos rfl]
    by_cases er : r = q
    · subst er; rw [upd1, if_pos rfl, gq_new j (by omega) (by omega), if_pos hp]
    · rw [upd1, if_neg er]
      by_cases e : r < q
      · rw [gq_new j (by omega) e, gq_new j (by omega) (by omega)]
      · rw [gq_old j e, gq_old j (by omega)]
  · rw [upd, if_neg ej]
    by_cases ec : j = c
    · subst ec; rw [gq_at, gq_at]
    · by_cases er : r = q
      · subst er
        rw [gq_old j (by omega), gq_new j ec (by omega)]
        by_cases el : j < c
        · rw [if_pos el]
          rw [tw_ins hc, if_pos el] at hr
          have hjp : j < p := by
            by_cases e : p < j
            · have := hb j e el; omega
            · omega
          exact lnk_ins_lt hc hjp hp hpq
        · rw [if_neg el]
          exact lnk_ins_gt hc h0 (by omega) (by omega)
      · by_cases e : r < q
        · rw [gq_new j ec e, gq_new j ec (by omega)]
        · rw [gq_old j e, gq_old j (by omega)]
theorem SKF.cut1 {w : World} {B : Nat} (h : SKF w (Gq ts c t q) (insT ts c t) B) (hc : c ≤ ts.length) (h0 : 0 < c) (hp : p < c) (hpq : q < (tw ts p).h) (hb : ∀ x, p < x → x < c → (tw ts x).h ≤ q) {x : Option Addr} {D : Nat} (hx : x = (lnk ts p q).1) (hD : D = (lnk ts p q).2) :
    SKF ((w.setCell ⟨(tw ts p).g, q * 2, none⟩ (.pointer x)).setCell ⟨(tw ts p).g, q * 2 + 1, none⟩ (.int .i64 (D : Nat))) (Gq ts c t (q + 1)) (insT ts c t) B := by
  subst hx hD
  have e : tw (insT ts c t) p = tw ts p := by rw [tw_ins hc, if_pos hp]
  have h2 := h.set2 (i := p) (r := q) (by rw [insT_len hc]; omega) (by rw [e]; exact hpq) (lnk ts p q).1 (lnk ts p q).2
  rw [e] at h2
  exact h2.congr fun j r hj hr => gq_step hc h0 hp hpq hb j r hj hr
theorem SKF.cut0 {w : World} {B : Nat} (h : SKF w (Gq ts c t q) (insT ts c t) B) (hc : c ≤ ts.length) (h0 : 0 < c) (hp : p < c) (hpq : q < (tw ts p).h) (hb : ∀ x, p < x → x < c → (tw ts x).h ≤ q) (hq : t.h ≤ q) {D : Nat} (hD : D = (lnk ts p q).2) :
    SKF (w.setCell ⟨(tw ts p).g, q * 2 + 1, none⟩ (.int .i64 (D : Nat))) (Gq ts c t (q + 1)) (insT ts c t) B := by
  subst hD
  have e : tw (insT ts c t) p = tw ts p := by rw [tw_ins hc, if_pos hp]
  have h2 := h.setW (i := p) (r := q) (by rw [insT_len hc]; omega) (by rw [e]; exact hpq) (lnk ts p q).2
  rw [e] at h2
  refine h2.congr fun j r hj hr => ?_
  rw [gq_old p (by omega), lnk_ins_low hc hp hb hq]
  exact gq_step hc h0 hp hpq hb j r hj hr
/-- All rows are done: a stack with one tower less. -/
theorem SK.shrunk {w wr : World} {s : Nat} {B : Nat} (h : SK w s (insT ts c t) B) (hf : SKF wr (Gq ts c t 12) (insT ts c t) B) (hc : c ≤ ts.length) (h0 : 0 < c)
    (hs : BC wr s tS [.pointer (some ⟨(tw ts 0).b, 0, none⟩), .int .i64 0, .int .i64 ((ts.length - 1 : Nat) : Int)]) : SK wr s ts B := by
  have et := tw_ins (t := t) hc
  have hl := insT_len (t := t) hc
  have key : ∀ i, i < ts.length → ∃ j, j < (insT ts c t).length ∧ tw (insT ts c t) j = tw ts i ∧ j ≠ c ∧ (if j < c then j else j - 1) = i ∧ i ≤ j ∧ j ≤ i + 1 ∧ (i < c → j = i) ∧ (c ≤ i → j = i + 1) := fun i hi => by
    by_cases e : i < c
    · exact ⟨i, by omega, by rw [et, if_pos e], by omega, by rw [if_pos e], by omega, by omega, fun _ => rfl, fun h => by omega⟩
    · exact ⟨i + 1, by omega, by rw [et, if_neg (by omega), if_neg (by omega), Nat.add_sub_cancel], by omega, by rw [if_neg (by omega), Nat.add_sub_cancel], by omega, by omega, fun h => by omega, fun _ => rfl⟩
  refine ⟨⟨fun i hi => ?_, fun i hi => ?_, fun i k hi hk e => ?_, fun i k hi hk e => ?_, fun i hi => ?_⟩, hs, h.hs, by omega, by have := h.len; omega, ?_, fun i h1 h2 => ?_, fun i k h1 h2 h3 => ?_⟩
  · obtain ⟨j, h1, h2, _⟩ := key i hi
    rw [← h2]; exact hf.tow j h1
  · obtain ⟨j, h1, h2, h3, h4, h5⟩ := key i hi
    have := hf.lkb j h1
    rw [h2] at this
    rw [lkC_congr (f := lnk ts i) (f' := Gq ts c t 12 j) (fun r hr => ?_)]
    · exact this
    · have hr12 : r < 12 := by
        have := (h.h12 h1).2
        rw [h2] at this; omega
      rw [gq_new j h3 hr12, h4]
  · obtain ⟨j, a1, a2, a3, a4, a5, a6, a7, a8⟩ := key i hi
    obtain ⟨m, b1, b2, b3, b4, b5, b6, b7, b8⟩ := key k hk
    have := hf.gdj j m a1 b1 (by rw [a2, b2]; exact e)
    omega
  · obtain ⟨j, a1, a2, a3, a4, a5, a6, a7, a8⟩ := key i hi
    obtain ⟨m, b1, b2, b3, b4, b5, b6, b7, b8⟩ := key k hk
    have := hf.bdj j m a1 b1 (by rw [a2, b2]; exact e)
    omega
  · obtain ⟨j, h1, h2, _⟩ := key i hi
    rw [← h2]; exact hf.own j h1
  · have := h.head
    rw [et, if_pos h0] at this; exact this
  · obtain ⟨j, a1, a2, a3, a4, a5, _⟩ := key i h2
    rw [← a2]; exact h.hts j (by omega) a1
  · obtain ⟨j, a1, a2, a3, a4, a5, a6, a7, a8⟩ := key i (by omega)
    obtain ⟨m, b1, b2, b3, b4, b5, b6, b7, b8⟩ := key k h3
    rw [← a2, ← b2]; exact h.up j m (by omega) (by omega) b1
end
theorem pL_cut {ts ts0 : List Tw} {c : Nat} {t : Tw} (h : ts = insT ts0 (c + 1) t) (hc : c + 1 ≤ ts0.length) : (pL ts).take c ++ (pL ts).drop (c + 1) = pL ts0 := by
  subst h
  have hl : c ≤ (pL ts0).length := by rw [pL_len]; omega
  have h1 : ((pL ts0).take c).length = c := by simp; omega
  have e : pL (insT ts0 (c + 1) t) = (pL ts0).take c ++ t.p :: (pL ts0).drop c := by rw [pL_ins hc]; simp
  have e1 : (pL (insT ts0 (c + 1) t)).take c = (pL ts0).take c := by rw [e, List.take_append_of_le_length (by omega), List.take_take, Nat.min_self]
  have e2 : (pL (insT ts0 (c + 1) t)).drop (c + 1) = (pL ts0).drop c := by
    rw [e, List.drop_append, h1]
    rw [List.drop_of_length_le (by omega), show c + 1 - c = 1 from by omega]
    simp
  rw [e1, e2, List.take_append_drop]
theorem ins_of (ts : List Tw) (c : Nat) (hc : c < ts.length) : ∃ ts0, ts = insT ts0 c (tw ts c) ∧ ts0.length + 1 = ts.length ∧ c ≤ ts0.length := by
  refine ⟨ts.take c ++ ts.drop (c + 1), ?_, by simp; omega, by simp; omega⟩
  unfold insT
  have h1 : (ts.take c ++ ts.drop (c + 1)).take c = ts.take c := by
    rw [List.take_append_of_le_length (by simp; omega), List.take_take, Nat.min_self]
  have h2 : (ts.take c ++ ts.drop (c + 1)).drop c = ts.drop (c + 1) := by
    rw [List.drop_append_of_le_length (by simp; omega), List.drop_take]
    simp
  rw [h1, h2]
  have h3 : tw ts c = ts[c] := by simp [tw, List.getD_eq_getElem?_getD, List.getElem?_eq_getElem hc]
  rw [h3, ← List.drop_eq_getElem_cons hc, List.take_append_drop]
end Go.Proofs.YtpkkajglbklboaaDoor
