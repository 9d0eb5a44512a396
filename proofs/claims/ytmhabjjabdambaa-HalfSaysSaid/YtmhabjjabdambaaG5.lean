/-
  half's put: what its stores and calls come to, in HR's words. No walk. Conditions: none.
  Plain laws of the next and the previous number of a set, by its parts. No program. Conditions: none.
  half's cut: plain laws: what is left of a set. No walk. Conditions: none.
-/
import Derived.Test.YtmhabjjabdambaaG4

namespace Go.Proofs.Ytmhabjjabdambaa
open Go.ChangeShapes Go.WideShapes Go.ChangeAt Go.RowKit
set_option linter.unusedVariables false
set_option linter.unusedSimpArgs false

theorem eqIn_map {P : Program} (w : World) (n : Nat) (t k e : TypeId) (m : Option Nat) (h : P.underlying t = some (.map k e)) : (Op.equalIn (n + 1) t (.map m) (.map none)).run P w = .ok m.isNone w := by
  cases m <;> simp [Op.equalIn, run_underlying h]
theorem run_eqmap {P : Program} (w : World) (t k e : TypeId) (m : Option Nat) (h : P.underlying t = some (.map k e)) : (binOp .eql t (.map m) (.map none)).run P w = .ok (.bool m.isNone) w := by
  simp only [binOp]
  simp [Op.equal, Op.maxDepth, eqIn_map w 9999 t k e m h]
theorem insU_in {S : List Int} {x : Int} (h : UpL S) (hx : x ∈ S) : insU S x = S := up_ext (insU_up h x) h fun y => by
  rw [insU_mem]
  exact ⟨fun e => e.elim (fun e => e ▸ hx) id, .inr⟩
theorem insU_nil (x : Int) : insU [] x = [x] := rfl
theorem HB.first {n : Nat} {x : Int} (h0 : 0 ≤ x) (h1 : x < UU n) : HB n [x] true x x := ⟨by simp [UpL], fun y hy => by simp at hy; omega, by simp, fun _ => ⟨by simp, by simp, fun y hy => by simp at hy; omega⟩⟩
theorem HB.low {n : Nat} {S : List Int} {le mo x : Int} (h : HB n S true le mo) (h0 : 0 ≤ x) (h1 : x < UU n) (hx : x < le) : HB n (insU S x) true x mo := by
  obtain ⟨b1, b2, b3, b4⟩ := h
  obtain ⟨q1, q2, q3⟩ := b4 rfl
  refine ⟨insU_up b1 x, fun y hy => ?_, ?_, fun _ => ⟨insU_mem.2 (.inl rfl), insU_mem.2 (.inr q2), fun y hy => ?_⟩⟩
  · rcases insU_mem.1 hy with e | e
    · omega
    · exact b2 y e
  · simp only [true_iff]
    intro e
    have : x ∈ insU S x := insU_mem.2 (.inl rfl)
    rw [e] at this; cases this
  · rcases insU_mem.1 hy with e | e
    · have := q3 mo q2; omega
    · have := q3 y e; omega
theorem HB.high {n : Nat} {S : List Int} {le mo x mo' : Int} (h : HB n S true le mo) (h0 : 0 ≤ x) (h1 : x < UU n) (hx : le < x) (hm : (if mo < x then x else mo) = mo') : HB n (insU S x) true le mo' := by
  obtain ⟨b1, b2, b3, b4⟩ := h
  obtain ⟨q1, q2, q3⟩ := b4 rfl
  refine ⟨insU_up b1 x, fun y hy => ?_, ?_, fun _ => ⟨insU_mem.2 (.inr q1), ?_, fun y hy => ?_⟩⟩
  · rcases insU_mem.1 hy with e | e
    · omega
    · exact b2 y e
  · simp only [true_iff]
    intro e
    have : x ∈ insU S x := insU_mem.2 (.inl rfl)
    rw [e] at this; cases this
  · rw [insU_mem, ← hm]
    split
    · exact .inl rfl
    · exact .inr q2
  · rw [← hm]
    rcases insU_mem.1 hy with e | e
    · split <;> omega
    · have := q3 y e
      split <;> omega
theorem low_iff {S : List Int} {le x : Int} (q1 : le ∈ S) (q3 : ∀ y ∈ S, le ≤ y) (hx : x < le) (v : Int) : (v ∈ insU S x ∧ v ≠ x) ↔ (v = le ∨ (true = true ∧ v ∈ S ∧ v ≠ le)) := by
  rw [insU_mem]
  constructor
  · rintro ⟨h1 | h1, h2⟩
    · exact absurd h1 h2
    · by_cases e : v = le
      · exact .inl e
      · exact .inr ⟨rfl, h1, e⟩
  · rintro (h1 | ⟨_, h1, h2⟩)
    · subst h1; exact ⟨.inr q1, by omega⟩
    · have := q3 v h1; exact ⟨.inr h1, by omega⟩
theorem high_iff {S : List Int} {le x : Int} (hx : le < x) (v : Int) : (v ∈ insU S x ∧ v ≠ le) ↔ (v = x ∨ (true = true ∧ v ∈ S ∧ v ≠ le)) := by
  rw [insU_mem]
  constructor
  · rintro ⟨h1 | h1, h2⟩
    · exact .inl h1
    · exact .inr ⟨rfl, h1, h2⟩
  · rintro (h1 | ⟨_, h1, h2⟩)
    · subst h1; exact ⟨.inl rfl, by omega⟩
    · exact ⟨.inr h1, h2⟩
section
variable {ty : TypeId} {n : Nat} {w w' : World} {b : Nat} {F : List Nat}
/-- A set that holds nothing gets its first number. -/
theorem HR.first : ∀ {n : Nat}, HR ty n w [] b F → ∃ le mo mv hv, BC w b ty (hC n false le mo mv hv) ∧ ∀ x w', 0 ≤ x → x < UU n → Kf (fun i => i = b) w w' → BC w' b ty (hC n true x x mv hv) → HR ty n w' [x] b F
  | 0, ⟨an, le, mo, hb, hc, hF⟩ => by
    have han : an = false := by
      cases an with
      | false => rfl
      | true => exact absurd rfl (hb.2.2.1.1 rfl)
    subst han
    exact ⟨le, mo, _, _, hc, fun x w' h0 h1 hk hc' => ⟨true, x, x, HB.first h0 h1, hc', hF⟩⟩
  | n + 1, ⟨an, le, mo, hb, hcase⟩ => by
    have han : an = false := by
      cases an with
      | false => rfl
      | true => exact absurd rfl (hb.2.2.1.1 rfl)
    subst han
    rcases hcase with ⟨h2, h3, h4⟩ | ⟨m, hb', Hs, Fh, E, a1, a2, a3, a4, a5, a6, a7, a8⟩
    · exact ⟨le, mo, _, _, h2, fun x w' h0 h1 hk hc' => ⟨true, x, x, HB.first h0 h1, .inl ⟨hc', h3, fun _ y hy => by simpa using hy⟩⟩⟩
    · refine ⟨le, mo, _, _, a1, fun x w' h0 h1 hk hc' => ⟨true, x, x, HB.first h0 h1, .inr ⟨m, hb', Hs, Fh, E, hc', ?_, ?_, fun e he => ⟨?_, (a4 e he).2⟩, a5, a6, a7, ?_⟩⟩⟩
      all_goals
        have hd := a7
        rw [a6, List.nodup_cons, List.nodup_cons] at hd
        obtain ⟨d1, d2, d3⟩ := hd
      · exact a2.kf hk (fun e => d1 (by simp [e]))
      · exact a3.kf hk (fun i hi e => d1 (by rw [← e]; simp [hi]))
      · refine (a4 e he).1.kf hk (fun i hi e2 => d1 ?_)
        rw [← e2, List.mem_cons, List.mem_append, List.mem_flatMap]
        exact .inr (.inr ⟨e, he, hi⟩)
      · refine ⟨fun h y hy0 hy1 => ?_, a8.2⟩
        rw [← a8.1 h y hy0 hy1]
        simp only [List.mem_singleton]
        constructor
        · rintro ⟨_, h2, h3⟩; exact absurd h2 h3
        · rintro ⟨h2, _⟩; cases h2
/-- The first parts. -/
theorem HQ.start {le mo : Int} {m hb : Nat} {an : Bool} (hc : BC w b ty (hC (n + 1) an le mo (.map (some m)) (.pointer (some ⟨hb, 0, none⟩)))) (hm : PM w m []) (hr : HR ty n w [] hb [hb]) (h1 : b ≠ m) (h2 : b ≠ hb) (h3 : m ≠ hb) : HQ ty n w b [b, m, hb] an le mo m hb [] [hb] [] :=
  ⟨hc, hm, hr, fun e he => (by cases he), List.nodup_nil, by simp, by simp [h1, h2, h3]⟩
theorem HR.new (n : Nat) (hc : BC w b ty (hC n false 0 0 (.map none) (.pointer none))) : HR ty n w [] b [b] := by
  have hB : HB n [] false 0 0 := ⟨by simp [UpL], fun x hx => (by cases hx), by simp, fun h => (by cases h)⟩
  cases n with
  | zero => exact ⟨false, 0, 0, hB, hc, rfl⟩
  | succ n => exact ⟨false, 0, 0, hB, .inl ⟨hc, rfl, fun h => (by cases h)⟩⟩
/-- The number is in its part: the set anew. -/
theorem HQ.put {S S' : List Int} {le le' mo' z : Int} {m hb : Nat} {Hs Hs' : List Int} {Fh F' : List Nat} {E : List HE} {e0 : HE} (hq : HQ ty n w b F true le' mo' m hb Hs' Fh (setE E (z / UU n) (insU e0.S (z % UU n)) F')) (hb' : HB (n + 1) S' true le' mo')
    (hp : HP n S true le Hs E) (hn : (E.map HE.h).Nodup) (he : e0 ∈ E) (hz0 : 0 ≤ z) (hz1 : z < UU (n + 1)) (heh : e0.h = z / UU n) (hS : ∀ v, (v ∈ S' ∧ v ≠ le') ↔ (v = z ∨ (true = true ∧ v ∈ S ∧ v ≠ le))) (hHs : Hs' = insU Hs (z / UU n)) : HR ty (n + 1) w S' b F := by
  obtain ⟨a1, a2, a3, a4, a5, a6, a7⟩ := hq
  subst hHs
  exact ⟨true, le', mo', hb', .inr ⟨m, hb, _, Fh, _, a1, a2, a3, a4, a5, a6, a7, hp.put hn he hz0 hz1 heh hS⟩⟩
/-- A part more that holds nothing changes nothing of what is said. -/
theorem HP.add {S : List Int} {an : Bool} {le : Int} {Hs : List Int} {E : List HE} (hp : HP n S an le Hs E) (x : Int) (pb : Nat) (F : List Nat) : HP n S an le Hs (E ++ [⟨x, pb, [], F⟩]) := by
  refine ⟨fun h y h0 h1 => ?_, fun h => ?_⟩
  · rw [hp.1 h y h0 h1]
    simp
  · rw [hp.2 h]
    simp
theorem HP.empty {S : List Int} {le : Int} (h : ∀ x ∈ S, x = le) : HP n S true le [] [] := by
  refine ⟨fun k y h0 h1 => ?_, fun k => by simp⟩
  simp only [List.not_mem_nil, false_and, exists_false, iff_false]
  rintro ⟨_, h2, h3⟩
  exact h3 (h _ h2)
/-- HQ over the stores into the set's own cells. -/
theorem HQ.cells {an an' : Bool} {le le' mo mo' : Int} {m hb : Nat} {Hs : List Int} {Fh : List Nat} {E : List HE} (h : HQ ty n w b F an le mo m hb Hs Fh E) (hk : Kf (fun i => i = b) w w') (hc : BC w' b ty (hC (n + 1) an' le' mo' (.map (some m)) (.pointer (some ⟨hb, 0, none⟩)))) : HQ ty n w' b F an' le' mo' m hb Hs Fh E := by
  obtain ⟨a1, a2, a3, a4, a5, a6, a7⟩ := h
  have hd := a7
  rw [a6, List.nodup_cons, List.nodup_cons] at hd
  obtain ⟨d1, d2, d3⟩ := hd
  refine ⟨hc, a2.kf hk (fun e => d1 (by simp [e])), a3.kf hk (fun i hi e => d1 (by rw [← e]; simp [hi])), fun e he => ⟨(a4 e he).1.kf hk (fun i hi e2 => d1 ?_), (a4 e he).2⟩, a5, a6, a7⟩
  rw [← e2, List.mem_cons, List.mem_append, List.mem_flatMap]
  exact .inr (.inr ⟨e, he, hi⟩)
theorem HQ.kp {an : Bool} {le mo : Int} {m hb : Nat} {Hs : List Int} {Fh : List Nat} {E : List HE} (h : HQ ty n w b F an le mo m hb Hs Fh E) (hk : Kp w w') : HQ ty n w' b F an le mo m hb Hs Fh E :=
  h.cells (Kf.of hk) (h.1.kp hk)
theorem half_bits {k : Int} (n : Nat) (hn : n + 1 ≤ 4) (hk : k = ((2 ^ (n + 1) : Nat) : Int)) : wrap64 (k.tdiv 2) = ((2 ^ n : Nat) : Int) ∧ wrap64 (k - ((2 ^ n : Nat) : Int)) = ((2 ^ n : Nat) : Int) := by
  subst hk
  rcases (show n = 0 ∨ n = 1 ∨ n = 2 ∨ n = 3 by omega) with rfl | rfl | rfl | rfl <;> decide +kernel
end
end Go.Proofs.Ytmhabjjabdambaa
namespace Go.Proofs.Ytmhabjjabdambaa
open Go.ChangeShapes Go.WideShapes Go.ChangeAt Go.RowKit
set_option linter.unusedVariables false
set_option linter.unusedSimpArgs false

section
variable {n : Nat} {S Hs : List Int} {le x : Int} {E : List HE}
/-- A number of a set, but the least, is in a part; and each one of a part is in the set. -/
theorem HP.split (hp : HP n S true le Hs E) (hS : ∀ v ∈ S, 0 ≤ v ∧ v < UU (n + 1)) {v : Int} (hv : v ∈ S) (hne : v ≠ le) : ∃ e ∈ E, ∃ y ∈ e.S, 0 ≤ y ∧ y < UU n ∧ v = e.h * UU n + y := by
  have hM := UU_pos n
  obtain ⟨h0, h1⟩ := hS v hv
  obtain ⟨a1, a2, a3, a4, a5⟩ := half_in (M := UU n) (by omega) h0 (by rw [UU] at h1; exact h1)
  obtain ⟨e, he, e1, e2⟩ := (hp.has h0 h1 hne).1 hv
  exact ⟨e, he, v % UU n, e2, a3, a4, by rw [e1]; exact a5.symm⟩
theorem HP.join (hp : HP n S true le Hs E) {e : HE} (he : e ∈ E) {y : Int} (hy : y ∈ e.S) (h0 : 0 ≤ y) (h1 : y < UU n) : e.h * UU n + y ∈ S ∧ e.h * UU n + y ≠ le := by
  have := (hp.1 e.h y h0 h1).2 ⟨e, he, rfl, hy⟩
  exact this.2
theorem HP.next1 (hp : HP n S true le Hs E) (hu : UpL S) (hS : ∀ v ∈ S, 0 ≤ v ∧ v < UU (n + 1)) (hle : le ≤ x) (hx0 : 0 ≤ x) (hx1 : x < UU (n + 1)) (hr : ∀ e ∈ E, UpL e.S ∧ ∀ v ∈ e.S, 0 ≤ v ∧ v < UU n) (hn : (E.map HE.h).Nodup) {e : HE} (he : e ∈ E) (hh : e.h = x / UU n) {y : Int} (hy : nxU e.S (x % UU n) = some y) : nxU S x = some (e.h * UU n + y) := by
  have hM := UU_pos n
  obtain ⟨a1, a2, a3, a4, a5⟩ := half_in (M := UU n) (by omega) hx0 (by rw [UU] at hx1; exact hx1)
  obtain ⟨b1, b2, b3⟩ := (nxU_iff (hr e he).1).1 hy
  obtain ⟨c1, c2⟩ := (hr e he).2 y b1
  rw [nxU_iff hu]
  refine ⟨(hp.join he b1 c1 c2).1, ?_, fun v hv hxv => ?_⟩
  · rw [← a5, half_lt (by omega) a3 a4 c1 c2]; exact .inr ⟨hh.symm, b2⟩
  · obtain ⟨q, hq, z, hz, z0, z1, rfl⟩ := hp.split hS hv (by omega)
    rw [← a5, half_lt (by omega) a3 a4 z0 z1] at hxv
    refine Int.not_lt.1 fun hlt => ?_
    rw [half_lt (by omega) z0 z1 c1 c2] at hlt
    rcases hlt with h1 | ⟨h1, h2⟩
    · omega
    · have : q = e := one_of hn hq he h1
      subst this
      have := b3 z hz (by omega)
      omega
theorem HP.next2 (hp : HP n S true le Hs E) (hu : UpL S) (hS : ∀ v ∈ S, 0 ≤ v ∧ v < UU (n + 1)) (hle : le ≤ x) (hx0 : 0 ≤ x) (hx1 : x < UU (n + 1)) (hr : ∀ e ∈ E, UpL e.S ∧ ∀ v ∈ e.S, 0 ≤ v ∧ v < UU n) (hn : (E.map HE.h).Nodup) (hHs : UpL Hs) (hno : ∀ e ∈ E, e.h = x / UU n → nxU e.S (x % UU n) = none) {e : HE} (he : e ∈ E) (hk : nxU Hs (x / UU n) = some e.h) {y : Int} (hy : y ∈ e.S) (hyl : ∀ v ∈ e.S, y ≤ v) :
    nxU S x = some (e.h * UU n + y) := by
  have hM := UU_pos n
  obtain ⟨a1, a2, a3, a4, a5⟩ := half_in (M := UU n) (by omega) hx0 (by rw [UU] at hx1; exact hx1)
  obtain ⟨b1, b2, b3⟩ := (nxU_iff hHs).1 hk
  obtain ⟨c1, c2⟩ := (hr e he).2 y hy
  rw [nxU_iff hu]
  refine ⟨(hp.join he hy c1 c2).1, ?_, fun v hv hxv => ?_⟩
  · rw [← a5, half_lt (by omega) a3 a4 c1 c2]; exact .inl b2
  · obtain ⟨q, hq, z, hz, z0, z1, rfl⟩ := hp.split hS hv (by omega)
    rw [← a5, half_lt (by omega) a3 a4 z0 z1] at hxv
    refine Int.not_lt.1 fun hlt => ?_
    rw [half_lt (by omega) z0 z1 c1 c2] at hlt
    rcases hxv with h3 | ⟨h3, h4⟩
    · have h5 := b3 q.h ((hp.2 _).2 ⟨q, hq, rfl, fun h6 => by rw [h6] at hz; cases hz⟩) h3
      rcases hlt with h1 | ⟨h1, h2⟩
      · omega
      · have : q = e := one_of hn hq he h1
        subst this
        have := hyl z hz; omega
    · exact nxU_none.1 (hno q hq h3.symm) z hz h4
theorem HP.prev1 (hp : HP n S true le Hs E) (hu : UpL S) (hS : ∀ v ∈ S, 0 ≤ v ∧ v < UU (n + 1)) (hmin : ∀ v ∈ S, le ≤ v) (hx0 : 0 ≤ x) (hx1 : x < UU (n + 1)) (hr : ∀ e ∈ E, UpL e.S ∧ ∀ v ∈ e.S, 0 ≤ v ∧ v < UU n) (hn : (E.map HE.h).Nodup) {e : HE} (he : e ∈ E) (hh : e.h = x / UU n) {y : Int} (hy : pvU e.S (x % UU n) = some y) : pvU S x = some (e.h * UU n + y) := by
  have hM := UU_pos n
  obtain ⟨a1, a2, a3, a4, a5⟩ := half_in (M := UU n) (by omega) hx0 (by rw [UU] at hx1; exact hx1)
  obtain ⟨b1, b2, b3⟩ := (pvU_iff (hr e he).1).1 hy
  obtain ⟨c1, c2⟩ := (hr e he).2 y b1
  obtain ⟨j1, j2⟩ := hp.join he b1 c1 c2
  rw [pvU_iff hu]
  refine ⟨j1, ?_, fun v hv hxv => ?_⟩
  · have := (half_lt (M := UU n) (h := e.h) (h' := x / UU n) (by omega) c1 c2 a3 a4).2 (.inr ⟨hh, b2⟩)
    omega
  · by_cases hne : v = le
    · subst hne; have := hmin _ j1; omega
    · obtain ⟨q, hq, z, hz, z0, z1, rfl⟩ := hp.split hS hv hne
      rw [← a5, half_lt (by omega) z0 z1 a3 a4] at hxv
      refine Int.not_lt.1 fun hlt => ?_
      rw [half_lt (by omega) c1 c2 z0 z1] at hlt
      rcases hlt with h1 | ⟨h1, h2⟩
      · omega
      · have : e = q := one_of hn he hq h1
        subst this
        have := b3 z hz (by omega)
        omega
theorem HP.prev2 (hp : HP n S true le Hs E) (hu : UpL S) (hS : ∀ v ∈ S, 0 ≤ v ∧ v < UU (n + 1)) (hmin : ∀ v ∈ S, le ≤ v) (hx0 : 0 ≤ x) (hx1 : x < UU (n + 1)) (hr : ∀ e ∈ E, UpL e.S ∧ ∀ v ∈ e.S, 0 ≤ v ∧ v < UU n) (hn : (E.map HE.h).Nodup) (hHs : UpL Hs) (hno : ∀ e ∈ E, e.h = x / UU n → pvU e.S (x % UU n) = none) {e : HE} (he : e ∈ E) (hk : pvU Hs (x / UU n) = some e.h) {y : Int} (hy : y ∈ e.S) (hyl : ∀ v ∈ e.S, v ≤ y) :
    pvU S x = some (e.h * UU n + y) := by
  have hM := UU_pos n
  obtain ⟨a1, a2, a3, a4, a5⟩ := half_in (M := UU n) (by omega) hx0 (by rw [UU] at hx1; exact hx1)
  obtain ⟨b1, b2, b3⟩ := (pvU_iff hHs).1 hk
  obtain ⟨c1, c2⟩ := (hr e he).2 y hy
  obtain ⟨j1, j2⟩ := hp.join he hy c1 c2
  rw [pvU_iff hu]
  refine ⟨j1, ?_, fun v hv hxv => ?_⟩
  · have := (half_lt (M := UU n) (h := e.h) (h' := x / UU n) (by omega) c1 c2 a3 a4).2 (.inl b2)
    omega
  · by_cases hne : v = le
    · subst hne; have := hmin _ j1; omega
    · obtain ⟨q, hq, z, hz, z0, z1, rfl⟩ := hp.split hS hv hne
      rw [← a5, half_lt (by omega) z0 z1 a3 a4] at hxv
      refine Int.not_lt.1 fun hlt => ?_
      rw [half_lt (by omega) c1 c2 z0 z1] at hlt
      rcases hxv with h3 | ⟨h3, h4⟩
      · have h5 := b3 q.h ((hp.2 _).2 ⟨q, hq, rfl, fun h6 => by rw [h6] at hz; cases hz⟩) h3
        rcases hlt with h1 | ⟨h1, h2⟩
        · omega
        · have : e = q := one_of hn he hq h1
          subst this
          have := hyl z hz; omega
      · exact pvU_none.1 (hno q hq h3) z hz h4
theorem HP.prev3 (hp : HP n S true le Hs E) (hu : UpL S) (hS : ∀ v ∈ S, 0 ≤ v ∧ v < UU (n + 1)) (hmin : ∀ v ∈ S, le ≤ v) (hles : le ∈ S) (hlx : le < x) (hx0 : 0 ≤ x) (hx1 : x < UU (n + 1)) (hHs : UpL Hs) (hno : ∀ e ∈ E, e.h = x / UU n → pvU e.S (x % UU n) = none) (hk : pvU Hs (x / UU n) = none) :
    pvU S x = some le := by
  have hM := UU_pos n
  obtain ⟨a1, a2, a3, a4, a5⟩ := half_in (M := UU n) (by omega) hx0 (by rw [UU] at hx1; exact hx1)
  rw [pvU_iff hu]
  refine ⟨hles, hlx, fun v hv hxv => ?_⟩
  by_cases hne : v = le
  · omega
  · exfalso
    obtain ⟨q, hq, z, hz, z0, z1, rfl⟩ := hp.split hS hv hne
    rw [← a5, half_lt (by omega) z0 z1 a3 a4] at hxv
    rcases hxv with h3 | ⟨h3, h4⟩
    · exact pvU_none.1 hk q.h ((hp.2 _).2 ⟨q, hq, rfl, fun h6 => by rw [h6] at hz; cases hz⟩) h3
    · exact pvU_none.1 (hno q hq h3) z hz h4
end
end Go.Proofs.Ytmhabjjabdambaa
namespace Go.Proofs.Ytmhabjjabdambaa
open Go.ChangeShapes Go.WideShapes Go.ChangeAt Go.RowKit
set_option linter.unusedVariables false
set_option linter.unusedSimpArgs false

theorem HB.cut {n : Nat} {S : List Int} {le mo x le' mo' : Int} (h : HB n S true le mo) (h1 : le' ∈ delU S x) (h2 : ∀ v ∈ delU S x, le' ≤ v) (h3 : mo' ∈ delU S x) (h4 : ∀ v ∈ delU S x, v ≤ mo') : HB n (delU S x) true le' mo' := by
  obtain ⟨b1, b2, _, _⟩ := h
  refine ⟨delU_up b1 x, fun v hv => b2 v (delU_mem.1 hv).1, ?_, fun _ => ⟨h1, h3, fun v hv => ⟨h2 v hv, h4 v hv⟩⟩⟩
  simp only [true_iff]
  intro e
  rw [e] at h1; cases h1
theorem up_one {S : List Int} {le mo x : Int} (hu : UpL S) (h : ∀ v ∈ S, le ≤ v ∧ v ≤ mo) (he : le = mo) (hx : x ∈ S) : S = [x] := by
  refine up_ext hu (by simp [UpL]) fun v => ?_
  rw [List.mem_singleton]
  have := h x hx
  constructor
  · intro hv; have := h v hv; omega
  · intro hv; rw [hv]; exact hx
theorem delU_one (x : Int) : delU [x] x = [] := by simp [delU]
/-- A number out of two. -/
theorem delU_two {S : List Int} {le mo x : Int} (h : HB 0 S true le mo) (hne : le ≠ mo) (hx : x ∈ S) : HB 0 (delU S x) true (1 - x) (1 - x) := by
  have hh := h
  obtain ⟨b1, b2, b3, b4⟩ := h
  obtain ⟨q1, q2, q3⟩ := b4 rfl
  have e1 := b2 le q1
  have e2 := b2 mo q2
  have e3 := b2 x hx
  have e4 := (q3 le q1).2
  have e5 : UU 0 = 2 := rfl
  have hm : 1 - x ∈ delU S x := by
    rw [delU_mem]
    refine ⟨?_, by omega⟩
    by_cases e : x = le
    · rw [show 1 - x = mo from by omega]; exact q2
    · rw [show 1 - x = le from by omega]; exact q1
  have hv : ∀ v ∈ delU S x, v = 1 - x := fun v hv => by
    rw [delU_mem] at hv
    have := b2 v hv.1
    omega
  exact hh.cut hm (fun v h => by rw [hv v h]; omega) hm (fun v h => by rw [hv v h]; omega)
section
variable {ty : TypeId} {n : Nat} {w w' : World} {b : Nat} {F : List Nat} {S : List Int}
theorem HR.look_some (h : HR ty n w S b F) (hS : S ≠ []) : ∃ le mo, w.cell? ⟨b, 1, none⟩ = some (.bool true) ∧ w.cell? ⟨b, 2, none⟩ = some (.int .i64 le) ∧ w.cell? ⟨b, 3, none⟩ = some (.int .i64 mo) ∧ le ∈ S ∧ mo ∈ S ∧ (∀ v ∈ S, le ≤ v ∧ v ≤ mo) ∧ ∀ v ∈ S, 0 ≤ v ∧ v < UU n := by
  obtain ⟨an, le, mo, mv, hv, hb, hc⟩ := h.hb
  have han : an = true := hb.2.2.1.2 hS
  subst han
  obtain ⟨q1, q2, q3⟩ := hb.2.2.2 rfl
  have c1 := hc.cell 1
  have c2 := hc.cell 2
  have c3 := hc.cell 3
  simp only [hC, List.getElem?_cons_zero, List.getElem?_cons_succ] at c1 c2 c3
  exact ⟨le, mo, c1, c2, c3, q1, q2, q3, hb.2.1⟩
theorem HR.look_none (h : HR ty n w [] b F) : w.cell? ⟨b, 1, none⟩ = some (.bool false) := by
  obtain ⟨an, le, mo, mv, hv, hb, hc⟩ := h.hb
  have han : an = false := by
    cases an with
    | false => rfl
    | true => exact absurd rfl (hb.2.2.1.1 rfl)
  subst han
  have c1 := hc.cell 1
  simp only [hC, List.getElem?_cons_zero, List.getElem?_cons_succ] at c1
  exact c1
/-- A set of one number loses it. -/
theorem HR.only : ∀ {n : Nat} {x : Int}, HR ty n w [x] b F → ∃ mv hv, BC w b ty (hC n true x x mv hv) ∧ ∀ w', Kf (fun i => i = b) w w' → BC w' b ty (hC n false x x mv hv) → HR ty n w' [] b F
  | 0, x, ⟨an, le, mo, hb, hc, hF⟩ => by
    have han : an = true := hb.2.2.1.2 (by simp)
    subst han
    obtain ⟨q1, q2, q3⟩ := hb.2.2.2 rfl
    rw [List.mem_singleton] at q1 q2
    subst q1 q2
    exact ⟨_, _, hc, fun w' hk hc' => ⟨false, mo, mo, ⟨by simp [UpL], fun y hy => (by cases hy), by simp, fun h => (by cases h)⟩, hc', hF⟩⟩
  | n + 1, x, ⟨an, le, mo, hb, hcase⟩ => by
    have han : an = true := hb.2.2.1.2 (by simp)
    subst han
    obtain ⟨q1, q2, q3⟩ := hb.2.2.2 rfl
    rw [List.mem_singleton] at q1 q2
    subst q1 q2
    have hB : HB (n + 1) [] false mo mo := ⟨by simp [UpL], fun y hy => (by cases hy), by simp, fun h => (by cases h)⟩
    rcases hcase with ⟨h2, h3, h4⟩ | ⟨m, hb', Hs, Fh, E, a1, a2, a3, a4, a5, a6, a7, a8⟩
    · exact ⟨_, _, h2, fun w' hk hc' => ⟨false, mo, mo, hB, .inl ⟨hc', h3, fun h => (by cases h)⟩⟩⟩
    · refine ⟨_, _, a1, fun w' hk hc' => ⟨false, mo, mo, hB, .inr ⟨m, hb', Hs, Fh, E, hc', ?_, ?_, fun e he => ⟨?_, (a4 e he).2⟩, a5, a6, a7, ?_⟩⟩⟩
      all_goals
        have hd := a7
        rw [a6, List.nodup_cons, List.nodup_cons] at hd
        obtain ⟨d1, d2, d3⟩ := hd
      · exact a2.kf hk (fun e => d1 (by simp [e]))
      · exact a3.kf hk (fun i hi e => d1 (by rw [← e]; simp [hi]))
      · refine (a4 e he).1.kf hk (fun i hi e2 => d1 ?_)
        rw [← e2, List.mem_cons, List.mem_append, List.mem_flatMap]
        exact .inr (.inr ⟨e, he, hi⟩)
      · refine ⟨fun h y hy0 hy1 => ?_, a8.2⟩
        rw [← a8.1 h y hy0 hy1]
        simp only [List.mem_singleton]
        constructor
        · rintro ⟨h1, _⟩; cases h1
        · rintro ⟨_, h2, h3⟩; exact absurd h2 h3
theorem HQ.hr {le mo : Int} {m hb : Nat} {Hs : List Int} {Fh : List Nat} {E : List HE} (hq : HQ ty n w b F true le mo m hb Hs Fh E) (hB : HB (n + 1) S true le mo) (hp : HP n S true le Hs E) : HR ty (n + 1) w S b F := by
  obtain ⟨a1, a2, a3, a4, a5, a6, a7⟩ := hq
  exact ⟨true, le, mo, hB, .inr ⟨m, hb, _, Fh, _, a1, a2, a3, a4, a5, a6, a7, hp⟩⟩
theorem HQ.ne {an : Bool} {le mo : Int} {m hb : Nat} {Hs : List Int} {Fh : List Nat} {E : List HE} (hq : HQ ty n w b F an le mo m hb Hs Fh E) : hb ≠ b ∧ ∀ e ∈ E, e.b ≠ b := by
  obtain ⟨a1, a2, a3, a4, a5, a6, a7⟩ := hq
  rw [a6, List.nodup_cons] at a7
  obtain ⟨d1, _⟩ := a7
  refine ⟨fun e => d1 ?_, fun e he h => d1 ?_⟩
  · rw [← e]; simp [a3.lt.1]
  · rw [← h, List.mem_cons, List.mem_append, List.mem_flatMap]
    exact .inr (.inr ⟨e, he, (a4 e he).1.lt.1⟩)
theorem HQ.part_lk {an : Bool} {le mo : Int} {m hb : Nat} {Hs : List Int} {Fh : List Nat} {E : List HE} (hq : HQ ty n w b F an le mo m hb Hs Fh E) {e : HE} (he : e ∈ E) {h : Int} (hh : e.h = h) : lkP (E.map fun e => (e.h, e.b)) h = some e.b := (lkP_some hq.2.2.2.2.1).2 ⟨e, he, hh, rfl⟩
end
section
variable {n : Nat} {S Hs : List Int} {le k y : Int} {E : List HE} {e : HE}
/-- The least of the parts, and the most. -/
theorem HP.least (hp : HP n S true le Hs E) (hS : ∀ v ∈ S, 0 ≤ v ∧ v < UU (n + 1)) (hn : (E.map HE.h).Nodup) (hk : ∀ q ∈ Hs, e.h ≤ q) (he : e ∈ E) (hy : y ∈ e.S) (hyl : ∀ v ∈ e.S, y ≤ v) (y0 : 0 ≤ y) (y1 : y < UU n) :
    (e.h * UU n + y ∈ S ∧ e.h * UU n + y ≠ le) ∧ ∀ v ∈ S, v ≠ le → e.h * UU n + y ≤ v := by
  have hM := UU_pos n
  refine ⟨hp.join he hy y0 y1, fun v hv hne => ?_⟩
  obtain ⟨q, hq, z, hz, z0, z1, rfl⟩ := hp.split hS hv hne
  refine Int.not_lt.1 fun hlt => ?_
  rw [half_lt (by omega) z0 z1 y0 y1] at hlt
  have h5 := hk q.h ((hp.2 _).2 ⟨q, hq, rfl, fun h6 => by rw [h6] at hz; cases hz⟩)
  rcases hlt with h1 | ⟨h1, h2⟩
  · omega
  · have : q = e := one_of hn hq he h1
    subst this
    have := hyl z hz; omega
theorem HP.most (hp : HP n S true le Hs E) (hS : ∀ v ∈ S, 0 ≤ v ∧ v < UU (n + 1)) (hn : (E.map HE.h).Nodup) (hk : ∀ q ∈ Hs, q ≤ e.h) (he : e ∈ E) (hy : y ∈ e.S) (hyl : ∀ v ∈ e.S, v ≤ y) (y0 : 0 ≤ y) (y1 : y < UU n) :
    (e.h * UU n + y ∈ S ∧ e.h * UU n + y ≠ le) ∧ ∀ v ∈ S, v ≠ le → v ≤ e.h * UU n + y := by
  have hM := UU_pos n
  refine ⟨hp.join he hy y0 y1, fun v hv hne => ?_⟩
  obtain ⟨q, hq, z, hz, z0, z1, rfl⟩ := hp.split hS hv hne
  refine Int.not_lt.1 fun hlt => ?_
  rw [half_lt (by omega) y0 y1 z0 z1] at hlt
  have h5 := hk q.h ((hp.2 _).2 ⟨q, hq, rfl, fun h6 => by rw [h6] at hz; cases hz⟩)
  rcases hlt with h1 | ⟨h1, h2⟩
  · omega
  · have : e = q := one_of hn he hq h1
    subst this
    have := hyl z hz; omega
theorem HP.some_high (hp : HP n S true le Hs E) (hS : ∀ v ∈ S, 0 ≤ v ∧ v < UU (n + 1)) {v : Int} (hv : v ∈ S) (hne : v ≠ le) : Hs ≠ [] := by
  obtain ⟨q, hq, z, hz, _⟩ := hp.split hS hv hne
  intro h
  have := (hp.2 q.h).2 ⟨q, hq, rfl, fun h6 => by rw [h6] at hz; cases hz⟩
  rw [h] at this; cases this
/-- The part in which a number is. -/
theorem HP.at_ (hp : HP n S true le Hs E) {z : Int} (z0 : 0 ≤ z) (z1 : z < UU (n + 1)) (hz : z ∈ S) (hne : z ≠ le) : ∃ e ∈ E, e.h = z / UU n ∧ z % UU n ∈ e.S := (hp.has z0 z1 hne).1 hz
end
theorem cut_iff1 {S : List Int} {le x : Int} (hx : x ≠ le) (v : Int) : (v ∈ delU S x ∧ v ≠ le) ↔ (v ≠ x ∧ (true = true ∧ v ∈ S ∧ v ≠ le)) := by
  rw [delU_mem]; constructor
  · rintro ⟨⟨h1, h2⟩, h3⟩; exact ⟨h2, rfl, h1, h3⟩
  · rintro ⟨h2, _, h1, h3⟩; exact ⟨⟨h1, h2⟩, h3⟩
theorem cut_iff2 {S : List Int} {le z : Int} (v : Int) : (v ∈ delU S le ∧ v ≠ z) ↔ (v ≠ z ∧ (true = true ∧ v ∈ S ∧ v ≠ le)) := by
  rw [delU_mem]; constructor
  · rintro ⟨⟨h1, h2⟩, h3⟩; exact ⟨h3, rfl, h1, h2⟩
  · rintro ⟨h2, _, h1, h3⟩; exact ⟨⟨h1, h3⟩, h2⟩
end Go.Proofs.Ytmhabjjabdambaa
