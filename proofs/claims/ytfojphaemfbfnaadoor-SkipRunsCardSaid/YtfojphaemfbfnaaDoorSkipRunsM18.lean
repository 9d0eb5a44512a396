/-
  Small laws for the walks of skip.stack: a store that fills a fresh block; make([]link, h); find with nobody to be told; where the key stands. Conditions: none.
-/
import Derived.Test.YtfojphaemfbfnaaDoorSkipRunsM17
import Derived.Laws.Tables

namespace Go.Proofs.YtfojphaemfbfnaaDoor
open Go.ChangeShapes Go.WideShapes Go.ChangeAt Go.RowKit
set_option linter.unusedVariables false
set_option linter.unusedSimpArgs false

theorem setRow_alloc (w : World) (old cells : Array Value) (t : TypeId) : (w.alloc (.cells old t)).setRow w.heap.size cells = w.alloc (.cells cells t) := by
  have hm : ∀ (x : Obj) (f : Obj → Obj), (w.heap.push x).modify w.heap.size f = w.heap.push (f x) := fun x f => by
    apply Array.ext_getElem?
    intro i
    rw [Array.getElem?_modify, Array.getElem?_push, Array.getElem?_push]
    by_cases e : w.heap.size = i
    · subst e; simp
    · rw [if_neg e, if_neg (fun h => e h.symm), if_neg (fun h => e h.symm)]
  unfold World.setRow World.alloc
  rw [hm]
theorem wpList_store_new {P : Program} {ops : Array Oper} {rest : List Oper} {o : Oper} {a : Act} {w W : World} {Q : Exit → Act → World → Prop} {old : Array Value} (hgd : o.guard = none) (ty : TypeId) (x y : Operand) (ho : o.op = .store ty x y)
    (cells : Array Value) (t : TypeId) (hx : a.eval x = .pointer (some ⟨w.heap.size, 0, none⟩)) (hy : a.eval y = .agg cells) (hi : (P.info? ty).map (·.size) = some cells.size)
    (hold : old.size = cells.size) (h1 : cells.all (·.oneCell') = true) (hW : W = w.alloc (.cells cells t))
    (h : wpList P ops Q rest (a.put o.dst undef) W) : wpList P ops Q (o :: rest) a (w.alloc (.cells old t)) :=
  wpList_store_row hgd ty x y ho w.heap.size cells hx hy t old (heap_alloc_new w _) hi hold h1 (by rw [setRow_alloc, ← hW]; exact h)

def eLk : Enc (Option Addr × Nat) := ⟨2, fun x => [.pointer x.1, .int .i64 (x.2 : Nat)], fun _ => rfl, fun _ u h => by simp at h; rcases h with rfl | rfl <;> rfl⟩
set_option maxRecDepth 100000 in
theorem info_lk : (Tryd.prog.info? 91).map (fun i => (i.zero, i.size, i.bytes)) = some (some (.agg #[.pointer none, .int .i64 0]), 2, 16) := by kernel_rfl
theorem row_lk : Row Tryd.prog 74 91 eLk 16 := row_of info_lk Tryd.underlying74 rfl rfl (by decide)
theorem zero_lk : ∀ i z, Tryd.prog.info? 91 = some i → i.zero = some z → z.cells.toList = eLk.cells (none, 0) := zero_of info_lk rfl
theorem lkC_rep : ∀ n, (List.replicate n ((none, 0) : Option Addr × Nat)).flatMap eLk.cells = lkC (fun _ => (none, 0)) n
  | 0 => rfl
  | n + 1 => by rw [lkC_succ, ← lkC_rep n, List.replicate_succ', List.flatMap_append]; rfl
theorem mk_links (h : Nat) (hh : h ≤ 12) : ∃ C : Array Value, Hid (C = (lkC (fun _ => (none, 0)) h).toArray) ∧ ∀ W : World, (Instr.makeSlice 74 (.int .i64 (h : Int)) (.int .i64 (h : Int))).run Tryd.prog W = .ok (.slice (some ⟨W.heap.size, 0, none⟩) h h) (W.alloc (.cells C 91)) := by
  obtain ⟨C, h1, h2⟩ := run_mk row_lk ((none, 0) : Option Addr × Nat) zero_lk h (by omega) (by unfold maxLen; omega)
  exact ⟨C, hide (by rw [h1.out, lkC_rep]), h2⟩

def FkPost (ts : List Tw) (key : Int) (w : World) (e : Ending) (w' : World) : Prop := e = .returned (.agg (trC ts key 0).toArray) ∧ Kp w w'
set_option maxRecDepth 100000 in
theorem nobody_any (a b : Value) (w : World) : Calls Tryd.prog 50 #[a, b] w (fun e w' => e = .returned (.tuple #[]) ∧ w = w') := by
  go_enter Tryd.func50, Tryd.ntmps50
  go_wp2
  refine bodyPost_end (v := .tuple #[]) ?_ ?_ ?_
  · simp [results, Tryd.results50, go_sem]
  · rfl
  · exact ⟨rfl, rfl⟩
theorem find_kp (s : Nat) (ts : List Tw) (key : Int) (w : World) (B : Nat) (h : SK w s ts B) :
    Calls Tryd.prog 32 #[.pointer (some ⟨s, 0, none⟩), .int .i64 key, .func (.func 50) #[] #[]] w (FkPost ts key w) := by
  refine (find_nobody s ts key w B w.heap.size (fun _ _ => True) h (Nat.le_refl _) trivial (fun W st r i _ _ _ _ _ => (nobody_any _ _ W).mono ?_) (fun _ _ _ _ _ => trivial)).mono ?_
  · rintro e w' ⟨rfl, rfl⟩
    exact ⟨rfl, trivial, KW.refl _ _⟩
  · rintro e w' ⟨rfl, _, hk⟩
    exact ⟨rfl, hk.2.2 w (Nat.le_refl _) (Kp.refl _)⟩

section
variable {w : World} {s : Nat} {ts : List Tw} {B : Nat} {key : Int}
theorem nj_0 (h : SK w s ts B) {i : Nat} (hi : i < ts.length) : nj ts i 0 = i + 1 := by
  obtain ⟨f1, f2, f3, f4⟩ := nj_facts ts i 0 hi
  by_cases e : i + 1 < nj ts i 0
  · have := f3 (i + 1) (by omega) e
    have := (h.h12 (i := i + 1) (by omega)).1
    omega
  · omega
theorem lnk_0 (h : SK w s ts B) {i : Nat} (hi : i < ts.length) : (lnk ts i 0).1 = if i + 1 < ts.length then some ⟨(tw ts (i + 1)).b, 0, none⟩ else none := by
  unfold lnk
  rw [nj_0 h hi]
/-- The key stands behind its place, or nowhere. -/
theorem sk_has (h : SK w s ts B) : hasKey (pL ts) key = true ↔ (pF ts key 0 + 1 < ts.length ∧ (tw ts (pF ts key 0 + 1)).p.1 = key) := by
  rw [hasKey_iff (pL ts) h.rise key, pF_below h]
  constructor
  · rintro ⟨hb, he⟩
    rw [pL_at] at he
    rw [pL_len] at hb
    exact ⟨by omega, he⟩
  · rintro ⟨hb, he⟩
    exact ⟨by rw [pL_len]; omega, by rw [pL_at]; exact he⟩
theorem SK.len_lt (h : SK w s ts B) : pF ts key 0 < ts.length := (isP_pF (key := key) h (r := 0) (by omega)).1
end
theorem trC_at (ts : List Tw) (key : Int) (q : Nat) (hq : q < 12) : (trC ts key 0)[q]? = some (.pointer (some ⟨(tw ts (pF ts key q)).b, 0, none⟩)) ∧ (trC ts key 0)[12 + q]? = some (.int .i64 (pF ts key q : Nat)) := by
  unfold trC
  constructor
  · rw [List.getElem?_append_left (by simp; omega)]
    simp [hq]
  · rw [List.getElem?_append_right (by simp)]
    simp [hq]
theorem hgt_nat (key : Int) : ∃ h : Nat, (h : Int) = hgtF key ∧ 0 < h ∧ h ≤ 12 := by
  have := hgtF_in key
  exact ⟨(hgtF key).toNat, by omega, by omega, by omega⟩
set_option maxRecDepth 100000 in
theorem info_ans4 : (Tryd.prog.info? 50).map (·.size) = some 4 := by kernel_rfl
section
variable {w : World} {F : Nat → Nat → Option Addr × Nat} {ts : List Tw} {B c q : Nat} {t : Tw}
theorem SKF.at_new (h : SKF w F (insT ts c t) B) (hc : c ≤ ts.length) : BC w t.b tT (twC t) ∧ BC w t.g tL (lkC (F c) t.h) ∧ B ≤ t.b ∧ B ≤ t.g := by
  have e : tw (insT ts c t) c = t := by rw [tw_ins hc, if_neg (by omega), if_pos rfl]
  have hl : c < (insT ts c t).length := by rw [insT_len hc]; omega
  have h1 := h.tow c hl
  have h2 := h.lkb c hl
  have h3 := h.own c hl
  rw [e] at h1 h2 h3
  exact ⟨h1, h2, h3⟩
theorem SKF.at_old (h : SKF w F (insT ts c t) B) (hc : c ≤ ts.length) {p : Nat} (hp : p < c) : BC w (tw ts p).b tT (twC (tw ts p)) ∧ BC w (tw ts p).g tL (lkC (F p) (tw ts p).h) ∧ (tw ts p).g ≠ t.g ∧ B ≤ (tw ts p).b ∧ B ≤ (tw ts p).g := by
  have e : tw (insT ts c t) p = tw ts p := by rw [tw_ins hc, if_pos hp]
  have e2 : tw (insT ts c t) c = t := by rw [tw_ins hc, if_neg (by omega), if_pos rfl]
  have hl : c < (insT ts c t).length := by rw [insT_len hc]; omega
  have hl2 : p < (insT ts c t).length := by omega
  have h1 := h.tow p hl2
  have h2 := h.lkb p hl2
  have h3 := h.own p hl2
  have h4 := h.gdj p c hl2 hl
  rw [e] at h1 h2 h3 h4
  rw [e2] at h4
  exact ⟨h1, h2, fun h5 => by have := h4 h5; omega, h3⟩
theorem lnk_past (hc : c ≤ ts.length) (h0 : 0 < c) {p r : Nat} (hp : p < c) (hb : ∀ x, p < x → x < c → (tw ts x).h ≤ r) : c ≤ p + (lnk ts p r).2 + 1 := by
  obtain ⟨f1, f2, f3, f4⟩ := nj_facts ts p r (by omega)
  have hge : c ≤ nj ts p r := by
    by_cases h : nj ts p r < c
    · have := hb _ f1 h
      have := f4 (by omega)
      omega
    · omega
  unfold lnk
  simp only
  omega
/-- The store of a new link into the new tower, and of the link to it. -/
theorem SKF.put_hi (h : SKF w (Fq ts c t q) (insT ts c t) B) (hc : c ≤ ts.length) (h0 : 0 < c) {p : Nat} (hp : p < c) (hpq : q < (tw ts p).h) (hb : ∀ x, p < x → x < c → (tw ts x).h ≤ q) (hq : q < t.h) {x : Option Addr} {M D : Nat} (hx : x = (lnk ts p q).1) (hM : M = p + (lnk ts p q).2 + 1 - c) (hD : D = c - p) :
    SKF ((((w.setCell ⟨t.g, q * 2, none⟩ (.pointer x)).setCell ⟨t.g, q * 2 + 1, none⟩ (.int .i64 (M : Nat))).setCell ⟨(tw ts p).g, q * 2, none⟩ (.pointer (some ⟨t.b, 0, none⟩))).setCell ⟨(tw ts p).g, q * 2 + 1, none⟩ (.int .i64 (D : Nat))) (Fq ts c t (q + 1)) (insT ts c t) B := by
  subst hx hM hD
  have e : tw (insT ts c t) p = tw ts p := by rw [tw_ins hc, if_pos hp]
  have e2 : tw (insT ts c t) c = t := by rw [tw_ins hc, if_neg (by omega), if_pos rfl]
  have hl : c < (insT ts c t).length := by rw [insT_len hc]; omega
  have h1 := h.set2 (i := c) (r := q) hl (by rw [e2]; exact hq) (lnk ts p q).1 (p + (lnk ts p q).2 + 1 - c)
  have h2 := h1.set2 (i := p) (r := q) (by omega) (by rw [e]; exact hpq) (some ⟨t.b, 0, none⟩) (c - p)
  rw [e, e2] at h2
  exact h2.congr fun j r hj hr => fq_step hc h0 hp hpq hb _ (fun _ => rfl) (fun h => by omega) j r hj hr
theorem SKF.put_lo (h : SKF w (Fq ts c t q) (insT ts c t) B) (hc : c ≤ ts.length) (h0 : 0 < c) {p : Nat} (hp : p < c) (hpq : q < (tw ts p).h) (hb : ∀ x, p < x → x < c → (tw ts x).h ≤ q) (hq : t.h ≤ q) {D : Nat} (hD : D = (lnk ts p q).2 + 1) :
    SKF (w.setCell ⟨(tw ts p).g, q * 2 + 1, none⟩ (.int .i64 (D : Nat))) (Fq ts c t (q + 1)) (insT ts c t) B := by
  subst hD
  have e : tw (insT ts c t) p = tw ts p := by rw [tw_ins hc, if_pos hp]
  have hl2 : p < (insT ts c t).length := by rw [insT_len hc]; omega
  have h2 := h.setW (i := p) (r := q) hl2 (by rw [e]; exact hpq) ((lnk ts p q).2 + 1)
  rw [e] at h2
  refine h2.congr fun j r hj hr => fq_step hc h0 hp hpq hb _ (fun h => by omega) (fun _ => ?_) j r hj hr
  rw [fq_old hp]
end
/-- All rows are done: a stack with one tower more. -/
theorem SK.grown {w wr : World} {s : Nat} {ts : List Tw} {B c : Nat} {t : Tw} (h : SK w s ts B) (hf : SKF wr (Fq ts (c + 1) t 12) (insT ts (c + 1) t) B) (hc : c + 1 ≤ ts.length) (hl : ts.length ≤ 200)
    (hs : BC wr s tS [.pointer (some ⟨(tw ts 0).b, 0, none⟩), .int .i64 0, .int .i64 ((ts.length : Nat) : Int)]) (ht : (t.h : Int) = hgtF t.p.1 ∧ 0 < t.h ∧ t.h ≤ 12)
    (h1 : ∀ i, 0 < i → i < c + 1 → (tw ts i).p.1 < t.p.1) (h2 : ∀ i, c + 1 ≤ i → i < ts.length → t.p.1 < (tw ts i).p.1) : SK wr s (insT ts (c + 1) t) B := by
  have et := tw_ins (t := t) hc
  have e0 : tw (insT ts (c + 1) t) 0 = tw ts 0 := by rw [et, if_pos (by omega)]
  refine ⟨hf.congr fun j r hj hr => fq_done ts (c + 1) t j r ?_, ?_, h.hs, by rw [insT_len hc]; omega, by rw [insT_len hc]; omega, by rw [e0]; exact h.head, fun i hi hl2 => ?_, fun i j hi hij hl2 => ?_⟩
  · rw [insT_len hc] at hj
    rw [et] at hr
    split at hr
    · have := (h.h12 (i := j) (by omega)).2; omega
    · split at hr
      · omega
      · have := (h.h12 (i := j - 1) (by omega)).2; omega
  · rw [e0, insT_len hc, Nat.add_sub_cancel]; exact hs
  · rw [insT_len hc] at hl2
    rw [et]
    split
    · exact h.hts i hi (by omega)
    · split
      · exact ht
      · exact h.hts (i - 1) (by omega) (by omega)
  · rw [insT_len hc] at hl2
    rw [et, et]
    by_cases a1 : i < c + 1
    · rw [if_pos a1]
      by_cases b1 : j < c + 1
      · rw [if_pos b1]; exact h.up i j hi hij (by omega)
      · rw [if_neg b1]
        by_cases b2 : j = c + 1
        · rw [if_pos b2]; exact h1 i hi a1
        · rw [if_neg b2]; exact h.up i (j - 1) hi (by omega) (by omega)
    · rw [if_neg a1, if_neg (show ¬ j < c + 1 by omega), if_neg (show ¬ j = c + 1 by omega)]
      by_cases a2 : i = c + 1
      · rw [if_pos a2]; exact h2 (j - 1) (by omega) (by omega)
      · rw [if_neg a2]; exact h.up (i - 1) (j - 1) (by omega) (by omega) (by omega)
theorem sk_lower {w : World} {s : Nat} {ts : List Tw} {B : Nat} {key : Int} (h : SK w s ts B) : ∀ i, 0 < i → i < pF ts key 0 + 1 → (tw ts i).p.1 < key := fun i h1 h2 => by
  obtain ⟨a1, a2, a3, a4⟩ := isP_pF (key := key) h (r := 0) (by omega)
  by_cases e : i = pF ts key 0
  · subst e; rcases a3 with a3 | a3 <;> omega
  · have := h.up i (pF ts key 0) h1 (by omega) a1
    rcases a3 with a3 | a3 <;> omega
theorem sk_upper {w : World} {s : Nat} {ts : List Tw} {B : Nat} {key : Int} (h : SK w s ts B) (hn : hasKey (pL ts) key = false) : ∀ i, pF ts key 0 + 1 ≤ i → i < ts.length → key < (tw ts i).p.1 := fun i h1 h2 => by
  obtain ⟨a1, a2, a3, a4⟩ := isP_pF (key := key) h (r := 0) (by omega)
  have h3 := a4 (pF ts key 0 + 1) (by omega) (by omega) (h.h12 (by omega)).1
  have h4 : (tw ts (pF ts key 0 + 1)).p.1 ≠ key := fun e => by
    have := (sk_has (key := key) h).2 ⟨by omega, e⟩
    rw [hn] at this; cases this
  by_cases e : i = pF ts key 0 + 1
  · subst e; omega
  · have := h.up (pF ts key 0 + 1) i (by omega) (by omega) h2; omega
/-- The trail laid into its box. -/
theorem tr_store (ts : List Tw) (key : Int) (w W : World) (hW : W = w.alloc (.cells (trC ts key 0).toArray 70)) :
    (storeCells ⟨w.heap.size, 0, none⟩ (trC ts key 0)).run Tryd.prog (w.alloc (.cells #[.pointer none, .pointer none, .pointer none, .pointer none, .pointer none, .pointer none, .pointer none, .pointer none, .pointer none, .pointer none, .pointer none, .pointer none, .int .i64 0, .int .i64 0, .int .i64 0, .int .i64 0, .int .i64 0, .int .i64 0, .int .i64 0, .int .i64 0, .int .i64 0, .int .i64 0, .int .i64 0, .int .i64 0] 70)) = .ok () W := by
  have := run_storeCells_from (P := Tryd.prog) w.heap.size 70 (trC ts key 0) 0 #[.pointer none, .pointer none, .pointer none, .pointer none, .pointer none, .pointer none, .pointer none, .pointer none, .pointer none, .pointer none, .pointer none, .pointer none, .int .i64 0, .int .i64 0, .int .i64 0, .int .i64 0, .int .i64 0, .int .i64 0, .int .i64 0, .int .i64 0, .int .i64 0, .int .i64 0, .int .i64 0, .int .i64 0] (w.alloc (.cells #[.pointer none, .pointer none, .pointer none, .pointer none, .pointer none, .pointer none, .pointer none, .pointer none, .pointer none, .pointer none, .pointer none, .pointer none, .int .i64 0, .int .i64 0, .int .i64 0, .int .i64 0, .int .i64 0, .int .i64 0, .int .i64 0, .int .i64 0, .int .i64 0, .int .i64 0, .int .i64 0, .int .i64 0] 70)) (heap_alloc_new w _) (by simp [trC_len]) (fun v hv => (Array.all_eq_true_iff_forall_mem.1 (trC_one ts key 0)) v (by simpa using hv))
  rw [this, hW, setRow_alloc]
  simp
end Go.Proofs.YtfojphaemfbfnaaDoor
