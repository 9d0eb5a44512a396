/-
  Rows above rows: what cutting a tower makes of the links, row by row. Conditions: none.
-/
import Derived.Test.YtfojphaemfbfnaaDoorSkipRunsM18

namespace Go.Proofs.YtfojphaemfbfnaaDoor
open Go.ChangeShapes Go.WideShapes Go.ChangeAt Go.RowKit
set_option linter.unusedVariables false
set_option linter.unusedSimpArgs false

def Gq (ts : List Tw) (c : Nat) (t : Tw) (q : Nat) : Nat → Nat → Option Addr × Nat := fun j r =>
  if j = c then lnk (insT ts c t) j r else if r < q then lnk ts (if j < c then j else j - 1) r else lnk (insT ts c t) j r
section
variable {ts : List Tw} {c q p : Nat} {t : Tw}
theorem gq_zero (j r : Nat) : Gq ts c t 0 j r = lnk (insT ts c t) j r := by unfold Gq; split <;> rfl
theorem gq_new {r : Nat} (j : Nat) (hj : j ≠ c) (h : r < q) : Gq ts c t q j r = lnk ts (if j < c then j else j - 1) r := by unfold Gq; rw [if_neg hj, if_pos h]
theorem gq_at (r : Nat) : Gq ts c t q c r = lnk (insT ts c t) c r := by unfold Gq; rw [if_pos rfl]
theorem gq_old {r : Nat} (j : Nat) (h : ¬ r < q) : Gq ts c t q j r = lnk (insT ts c t) j r := by
  unfold Gq
  split
  · rfl
  · first | rfl | rw [if_neg h]
theorem gq_step (hc : c ≤ ts.length) (h0 : 0 < c) (hp : p < c) (hpq : q < (tw ts p).h) (hb : ∀ x, p < x → x < c → (tw ts x).h ≤ q) :
    ∀ j r, j < (insT ts c t).length → r < (tw (insT ts c t) j).h → upd (Gq ts c t q) p q (lnk ts p q) j r = Gq ts c t (q + 1) j r := by
  intro j r hj hr
  rw [insT_len hc] at hj
  by_cases ej : j = p
  · subst ej
    rw [upd, if_pos rfl]
    by_cases er : r = q
    · subst er; rw [upd1, if_pos rfl, gq_new j (by omega) (by omega), if_pos hp]
    · rw [upd1, if_neg er]
      by_cases e : r < q
      · rw [gq_new j (by omega) e, gq_new j (by omega) (by omega)]
      · rw [gq_old j e, gq_old j (by omega)]
  · rw [upd, if_neg ej]
    by_cases ec : j = c
    · subst ec; rw [gq_at, gq_at]
    · by_cases er : r = q
      · subst er
        rw [gq_old j (by omega), gq_new j ec (by omega)]
        by_cases el : j < c
        · rw [if_pos el]
          rw [tw_ins hc, if_pos el] at hr
          have hjp : j < p := by
            by_cases e : p < j
            · have := hb j e el; omega
            · omega
          exact lnk_ins_lt hc hjp hp hpq
        · rw [if_neg el]
          exact lnk_ins_gt hc h0 (by omega) (by omega)
      · by_cases e : r < q
        · rw [gq_new j ec e, gq_new j ec (by omega)]
        · rw [gq_old j e, gq_old j (by omega)]
theorem SKF.cut1 {w : World} {B : Nat} (h : SKF w (Gq ts c t q) (insT ts c t) B) (hc : c ≤ ts.length) (h0 : 0 < c) (hp : p < c) (hpq : q < (tw ts p).h) (hb : ∀ x, p < x → x < c → (tw ts x).h ≤ q) {x : Option Addr} {D : Nat} (hx : x = (lnk ts p q).1) (hD : D = (lnk ts p q).2) :
    SKF ((w.setCell ⟨(tw ts p).g, q * 2, none⟩ (.pointer x)).setCell ⟨(tw ts p).g, q * 2 + 1, none⟩ (.int .i64 (D : Nat))) (Gq ts c t (q + 1)) (insT ts c t) B := by
  subst hx hD
  have e : tw (insT ts c t) p = tw ts p := by rw [tw_ins hc, if_pos hp]
  have h2 := h.set2 (i := p) (r := q) (by rw [insT_len hc]; omega) (by rw [e]; exact hpq) (lnk ts p q).1 (lnk ts p q).2
  rw [e] at h2
  exact h2.congr fun j r hj hr => gq_step hc h0 hp hpq hb j r hj hr
theorem SKF.cut0 {w : World} {B : Nat} (h : SKF w (Gq ts c t q) (insT ts c t) B) (hc : c ≤ ts.length) (h0 : 0 < c) (hp : p < c) (hpq : q < (tw ts p).h) (hb : ∀ x, p < x → x < c → (tw ts x).h ≤ q) (hq : t.h ≤ q) {D : Nat} (hD : D = (lnk ts p q).2) :
    SKF (w.setCell ⟨(tw ts p).g, q * 2 + 1, none⟩ (.int .i64 (D : Nat))) (Gq ts c t (q + 1)) (insT ts c t) B := by
  subst hD
  have e : tw (insT ts c t) p = tw ts p := by rw [tw_ins hc, if_pos hp]
  have h2 := h.setW (i := p) (r := q) (by rw [insT_len hc]; omega) (by rw [e]; exact hpq) (lnk ts p q).2
  rw [e] at h2
  refine h2.congr fun j r hj hr => ?_
  rw [gq_old p (by omega), lnk_ins_low hc hp hb hq]
  exact gq_step hc h0 hp hpq hb j r hj hr
/-- All rows are done: a stack with one tower less. -/
theorem SK.shrunk {w wr : World} {s : Nat} {B : Nat} (h : SK w s (insT ts c t) B) (hf : SKF wr (Gq ts c t 12) (insT ts c t) B) (hc : c ≤ ts.length) (h0 : 0 < c)
    (hs : BC wr s tS [.pointer (some ⟨(tw ts 0).b, 0, none⟩), .int .i64 0, .int .i64 ((ts.length - 1 : Nat) : Int)]) : SK wr s ts B := by
  have et := tw_ins (t := t) hc
  have hl := insT_len (t := t) hc
  have key : ∀ i, i < ts.length → ∃ j, j < (insT ts c t).length ∧ tw (insT ts c t) j = tw ts i ∧ j ≠ c ∧ (if j < c then j else j - 1) = i ∧ i ≤ j ∧ j ≤ i + 1 ∧ (i < c → j = i) ∧ (c ≤ i → j = i + 1) := fun i hi => by
    by_cases e : i < c
    · exact ⟨i, by omega, by rw [et, if_pos e], by omega, by rw [if_pos e], by omega, by omega, fun _ => rfl, fun h => by omega⟩
    · exact ⟨i + 1, by omega, by rw [et, if_neg (by omega), if_neg (by omega), Nat.add_sub_cancel], by omega, by rw [if_neg (by omega), Nat.add_sub_cancel], by omega, by omega, fun h => by omega, fun _ => rfl⟩
  refine ⟨⟨fun i hi => ?_, fun i hi => ?_, fun i k hi hk e => ?_, fun i k hi hk e => ?_, fun i hi => ?_⟩, hs, h.hs, by omega, by have := h.len; omega, ?_, fun i h1 h2 => ?_, fun i k h1 h2 h3 => ?_⟩
  · obtain ⟨j, h1, h2, _⟩ := key i hi
    rw [← h2]; exact hf.tow j h1
  · obtain ⟨j, h1, h2, h3, h4, h5⟩ := key i hi
    have := hf.lkb j h1
    rw [h2] at this
    rw [lkC_congr (f := lnk ts i) (f' := Gq ts c t 12 j) (fun r hr => ?_)]
    · exact this
    · have hr12 : r < 12 := by
        have := (h.h12 h1).2
        rw [h2] at this; omega
      rw [gq_new j h3 hr12, h4]
  · obtain ⟨j, a1, a2, a3, a4, a5, a6, a7, a8⟩ := key i hi
    obtain ⟨m, b1, b2, b3, b4, b5, b6, b7, b8⟩ := key k hk
    have := hf.gdj j m a1 b1 (by rw [a2, b2]; exact e)
    omega
  · obtain ⟨j, a1, a2, a3, a4, a5, a6, a7, a8⟩ := key i hi
    obtain ⟨m, b1, b2, b3, b4, b5, b6, b7, b8⟩ := key k hk
    have := hf.bdj j m a1 b1 (by rw [a2, b2]; exact e)
    omega
  · obtain ⟨j, h1, h2, _⟩ := key i hi
    rw [← h2]; exact hf.own j h1
  · have := h.head
    rw [et, if_pos h0] at this; exact this
  · obtain ⟨j, a1, a2, a3, a4, a5, _⟩ := key i h2
    rw [← a2]; exact h.hts j (by omega) a1
  · obtain ⟨j, a1, a2, a3, a4, a5, a6, a7, a8⟩ := key i (by omega)
    obtain ⟨m, b1, b2, b3, b4, b5, b6, b7, b8⟩ := key k h3
    rw [← a2, ← b2]; exact h.up j m (by omega) (by omega) b1
end
theorem pL_cut {ts ts0 : List Tw} {c : Nat} {t : Tw} (h : ts = insT ts0 (c + 1) t) (hc : c + 1 ≤ ts0.length) : (pL ts).take c ++ (pL ts).drop (c + 1) = pL ts0 := by
  subst h
  have hl : c ≤ (pL ts0).length := by rw [pL_len]; omega
  have h1 : ((pL ts0).take c).length = c := by simp; omega
  have e : pL (insT ts0 (c + 1) t) = (pL ts0).take c ++ t.p :: (pL ts0).drop c := by rw [pL_ins hc]; simp
  have e1 : (pL (insT ts0 (c + 1) t)).take c = (pL ts0).take c := by rw [e, List.take_append_of_le_length (by omega), List.take_take, Nat.min_self]
  have e2 : (pL (insT ts0 (c + 1) t)).drop (c + 1) = (pL ts0).drop c := by
    rw [e, List.drop_append, h1]
    rw [List.drop_of_length_le (by omega), show c + 1 - c = 1 from by omega]
    simp
  rw [e1, e2, List.take_append_drop]
theorem ins_of (ts : List Tw) (c : Nat) (hc : c < ts.length) : ∃ ts0, ts = insT ts0 c (tw ts c) ∧ ts0.length + 1 = ts.length ∧ c ≤ ts0.length := by
  refine ⟨ts.take c ++ ts.drop (c + 1), ?_, by simp; omega, by simp; omega⟩
  unfold insT
  have h1 : (ts.take c ++ ts.drop (c + 1)).take c = ts.take c := by
    rw [List.take_append_of_le_length (by simp; omega), List.take_take, Nat.min_self]
  have h2 : (ts.take c ++ ts.drop (c + 1)).drop c = ts.drop (c + 1) := by
    rw [List.drop_append_of_le_length (by simp; omega), List.drop_take]
    simp
  rw [h1, h2]
  have h3 : tw ts c = ts[c] := by simp [tw, List.getD_eq_getElem?_getD, List.getElem?_eq_getElem hc]
  rw [h3, ← List.drop_eq_getElem_cons hc, List.take_append_drop]
end Go.Proofs.YtfojphaemfbfnaaDoor
