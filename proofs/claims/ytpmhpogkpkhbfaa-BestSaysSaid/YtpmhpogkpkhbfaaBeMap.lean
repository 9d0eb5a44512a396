/-
  A map that the call owns, from parts to their least cost and its least top: what hedgref.LeastAsked keeps. Conditions: the parts lie within twenty keys.
-/
import Derived.Test.YtpmhpogkpkhbfaaKLaw
import Derived.Test.YtpmhpogkpkhbfaaMapK
import Derived.Test.YtpmhpogkpkhbfaaMTree
import Derived.DeepKeys3
namespace Go.Proofs.Ytpmhpogkpkhbfaa
open Go.ChangeShapes Go.WideShapes Go.ChangeAt Go.RowKit Go.Maps
set_option linter.unusedVariables false
set_option linter.unusedSimpArgs false

def kV (i j : Nat) : Value := .agg #[.int .i64 (i : Int), .int .i64 (j : Int)]
def kB (i j : Nat) : Lit := .string (keyBytes [.int .i64 (i : Int), .int .i64 (j : Int)])
def r2 (v : Value) : Option (DataW Unit × List MemPlace) := match v with
  | .agg cs => match cs.toList with
    | [.int .i64 a, .int .i64 b] => some (.agg [.lit (.int .i64 a), .lit (.int .i64 b)], [])
    | _ => none
  | _ => none
def v2 (a b : Int) : DataW Unit := .agg [.lit (.int .i64 a), .lit (.int .i64 b)]
theorem r2_mk (a b : Int) : r2 (.agg #[.int .i64 a, .int .i64 b]) = some (v2 a b, []) := rfl
theorem r2_inv {v : Value} {a b : Int} {ps : List MemPlace} (h : r2 v = some (v2 a b, ps)) : v = .agg #[.int .i64 a, .int .i64 b] := by
  unfold r2 at h
  split at h
  · rename_i cs
    split at h
    · rename_i hcs
      simp only [v2, Option.some.injEq, Prod.mk.injEq, DataW.agg.injEq, List.cons.injEq, DataW.lit.injEq, Lit.int.injEq, true_and] at h
      obtain ⟨⟨rfl, rfl, _⟩, _⟩ := h
      congr 1
      exact Array.ext' hcs
    · cases h
  · cases h
theorem keyOf_two {P : Program} {k e : TypeId} {a b : Int} (h1 : P.underlying k = some (.array 2 e)) (h2 : P.underlying e = some (.int .i64)) (h3 : P.cellsOf k = 2) (h4 : P.cellsOf e = 1) (h5 : P.keyType k = true) (hs : 0 < P.types.size)
    (w1 : (Lit.int .i64 a).wf = true) (w2 : (Lit.int .i64 b).wf = true) : keyOf P k (.agg #[.int .i64 a, .int .i64 b]) = some (.string (keyBytes [.int .i64 a, .int .i64 b])) := by
  obtain ⟨n, hn⟩ : ∃ n, P.types.size + 1 = n + 2 := ⟨P.types.size - 1, by omega⟩
  have e2 : (Value.agg #[.int .i64 a, .int .i64 b]).formed P k = true := by simp [Value.formed, h1, h3]
  have e3 : ∀ x : Int, (Lit.int .i64 x).wf = true → P.keyLits (n + 1) e [.int .i64 x] = some [.int .i64 x] := fun x hx => by
    unfold Program.keyLits; simp [h2, hx]
  have e4 : P.keyLits (n + 2) k [.int .i64 a, .int .i64 b] = some [.int .i64 a, .int .i64 b] := by
    unfold Program.keyLits
    simp only [h1]
    rw [if_pos (by rw [h3]; rfl), h4]
    have : List.range 2 = [0, 1] := rfl
    rw [this]
    simp [e3 a w1, e3 b w2]
  unfold keyOf
  simp only [h1]
  rw [h5, e2, hn]
  simp only [Bool.and_true, if_true]
  show (P.keyLits (n + 2) k [.int .i64 a, .int .i64 b]).map _ = _
  rw [e4]
  rfl
theorem key2 {i j : Nat} (hi : i ≤ 20) (hj : j ≤ 20) : keyOf Try.prog 62 (kV i j) = some (kB i j) :=
  keyOf_two (e := 3) (by kernel_rfl) Try.underlying3 (by kernel_rfl) (by kernel_rfl) (by kernel_rfl) (by decide +kernel) (wf_in2 (by omega)) (wf_in2 (by omega))
theorem law2 : Keyed Try.prog 62 := Keyed.of_law (deep_law (m := 3) (by omega) (by kernel_rfl) (by kernel_rfl) (by kernel_rfl))
theorem kB_ne {i j i' j' : Nat} (h1 : i ≤ 20) (h2 : j ≤ 20) (h3 : i' ≤ 20) (h4 : j' ≤ 20) (hn : ¬ (i = i' ∧ j = j')) : kB i j ≠ kB i' j' := fun e => by
  have a := key2 h1 h2
  rw [e] at a
  have b := law2.inj a (key2 h3 h4)
  simp only [kV, Value.agg.injEq] at b
  have c := congrArg Array.toList b
  simp at c
  exact hn ⟨by omega, by omega⟩
/-- How many parts are kept. -/
def cntK (D : DataW Unit) (n : Nat) : Nat := match n with
  | 0 => 0
  | n + 1 => cntK D n + if has D (kB (n / 21) (n % 21)) then 1 else 0
theorem cntK_le (D : DataW Unit) : ∀ n, cntK D n ≤ n
  | 0 => Nat.le_refl _
  | n + 1 => by have := cntK_le D n; rw [cntK]; split <;> omega
theorem kB_key {i j : Nat} (hi : i ≤ 20) (hj : j ≤ 20) : WideAt.IsKeyLit (kB i j) := law2.key (key2 hi hj)
theorem cntK_put {D : DataW Unit} {i j : Nat} (d : DataW Unit) (hm : IsMap D) (hi : i ≤ 20) (hj : j ≤ 20) : ∀ n, n ≤ 441 → cntK (D.put (kB i j) d) n = cntK D n + if 21 * i + j < n ∧ has D (kB i j) = false then 1 else 0
  | 0, _ => by simp [cntK]
  | n + 1, hn => by
    rw [cntK, cntK, cntK_put d hm hi hj n (by omega)]
    by_cases e : 21 * i + j = n
    · have e1 : n / 21 = i := by omega
      have e2 : n % 21 = j := by omega
      rw [e1, e2, has_put_same hm (kB_key hi hj)]
      rw [if_neg (by omega)]
      cases has D (kB i j) <;> simp <;> omega
    · have : ¬ (n / 21 = i ∧ n % 21 = j) := by omega
      rw [has_put_other (kB_ne (by omega) (by omega) hi hj this)]
      have e3 : (21 * i + j < n + 1) ↔ (21 * i + j < n) := by omega
      simp only [e3]
      omega
/-- The map in block b keeps only what is so. -/
def KM (h g : Nat → Int) (w : World) (b : Nat) : Prop := ∃ D, w.ownsMap Try.prog 62 r2 b (Maps.size D) D ∧ Maps.size D ≤ cntK D 441 ∧ Tidy D ∧ ∀ i j, i < j → j ≤ 20 → has D (kB i j) = true → ∀ z, D.atKey (kB i j) z = v2 (bc h g i j) (bt h g i j)
theorem KM.alloc {h g : Nat → Int} {w : World} {b : Nat} (hm : KM h g w b) (o : Obj) : KM h g (w.alloc o) b := by
  obtain ⟨D, h1, h2⟩ := hm
  exact ⟨D, h1.alloc o, h2⟩
theorem KM.kp {h g : Nat → Int} {w w' : World} {b : Nat} (hm : KM h g w b) (hk : Kp w w') : KM h g w' b := by
  obtain ⟨D, ⟨es, clock, hb, h1⟩, h2⟩ := hm
  exact ⟨D, ⟨es, clock, (hk.bel.block b ((Array.getElem?_eq_some_iff.1 hb).1)).trans hb, h1⟩, h2⟩
theorem KM.made (h g : Nat → Int) (w : World) : KM h g (w.alloc (.map #[] 0)) w.heap.size :=
  ⟨.map [], World.ownsMap_made w _ _ _, Nat.zero_le _, tidy_empty, fun i j _ _ hh => by cases hh⟩
theorem two_zero (w : World) : (zeroValue 62).run Try.prog w = .ok (.agg #[.int .i64 0, .int .i64 0]) w := by kernel_rfl
theorem KM.look {h g : Nat → Int} {w : World} {b : Nat} (hm : KM h g w b) {i j : Nat} (hij : i < j) (hj : j ≤ 20) :
    (Instr.lookup 38 (.map (some b)) (kV i j) true).run Try.prog w = .ok (.tuple #[.agg #[.int .i64 (bc h g i j), .int .i64 (bt h g i j)], .bool true]) w ∨
    (Instr.lookup 38 (.map (some b)) (kV i j) true).run Try.prog w = .ok (.tuple #[.agg #[.int .i64 0, .int .i64 0], .bool false]) w := by
  obtain ⟨D, h1, h2, h3, h4⟩ := hm
  obtain ⟨v, ps, hr, hv⟩ := h1.look_ok law2 (t := 38) (e := 62) Try.underlying38 (two_zero w) (r2_mk 0 0) (key2 (show i ≤ 20 by omega) hj)
  cases hh : has D (kB i j) with
  | true =>
    rw [h4 i j hij hj hh] at hv
    have := r2_inv hv
    subst this
    exact .inl (by rw [hr, hh])
  | false =>
    rw [atKey_of_not_has hh] at hv
    have := r2_inv hv
    subst this
    exact .inr (by rw [hr, hh])
theorem KM.upd {h g : Nat → Int} {w : World} {b : Nat} (hm : KM h g w b) {i j : Nat} (hij : i < j) (hj : j ≤ 20) :
    ∃ w', (Instr.mapUpdate 38 (.map (some b)) (kV i j) (.agg #[.int .i64 (bc h g i j), .int .i64 (bt h g i j)])).run Try.prog w = .ok () w' ∧ KM h g w' b ∧ Kf (fun o => o = b) w w' := by
  obtain ⟨D, h1, h2, h3, h4⟩ := hm
  have hc := cntK_le D 441
  obtain ⟨w', hr, ho, hg⟩ := h1.update law2 (t := 38) (e := 62) Try.underlying38 (by unfold maxLen; omega) (key2 (show i ≤ 20 by omega) hj) (r2_mk (bc h g i j) (bt h g i j))
  refine ⟨w', hr, ⟨D.put (kB i j) (v2 (bc h g i j) (bt h g i j)), ?_, ?_, h3.put (kB_key (by omega) hj) _, fun i' j' h5 h6 hh z => ?_⟩, ?_⟩
  · obtain ⟨es, cl, e1, e2, e3, e4⟩ := ho
    exact ⟨es, cl, e1, e2, by rw [e4]; simp [Maps.size, length_sorted], e4⟩
  · rw [size_put h3, cntK_put _ h3.isMap (by omega) hj 441 (by omega)]
    cases has D (kB i j)
    · simp; rw [if_pos (by omega)]; omega
    · simp; omega
  · by_cases e : i' = i ∧ j' = j
    · obtain ⟨rfl, rfl⟩ := e
      exact atKey_put_same h3.isMap (kB_key (by omega) hj) _ _
    · have hne := kB_ne (show i' ≤ 20 by omega) h6 (show i ≤ 20 by omega) hj e
      rw [has_put_other hne] at hh
      rw [atKey_put_other hne]
      exact h4 i' j' h5 h6 hh z
  · obtain ⟨g1, g2, g3, g4, g5⟩ := hg
    exact ⟨g1, g2, g3, g4, fun o ho hn => g5 o ho (fun e => hn (by injection e))⟩
end Go.Proofs.Ytpmhpogkpkhbfaa
