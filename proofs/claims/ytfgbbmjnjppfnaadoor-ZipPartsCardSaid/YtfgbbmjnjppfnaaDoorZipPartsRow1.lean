/-
  hedglaw.ZipParts: THE STATEMENT: for every input it answers true. Conditions: the table of math/bits holds what the program's text lays (tied on the card).
-/
import Derived.Test.YtfgbbmjnjppfnaaDoorZipPartsM2
import Derived.Test.YtfgbbmjnjppfnaaDoorCards
import Derived.Test.YtfgbbmjnjppfnaaDoorTie
import Derived.SevenTiedAt
import Derived.SizedLaws
import Derived.Test.YtfgbbmjnjppfnaaDoorZipPartsM18

namespace Go.Proofs.YtfgbbmjnjppfnaaDoor
open Go.ChangeShapes Go.WideShapes Go.ChangeAt Go.RowKit Go.Deep
set_option linter.unusedVariables false
set_option linter.unusedSimpArgs false

theorem bytesSpot : Tryd.prog.bytesOf 51 = 16 := by kernel_rfl
section
variable {H : Type} {enc : TypeId × Value → H} {w : World} {base : Nat} {spare : Nat → Bool} {held : Bool} {a0 : Option Addr} {n c : Nat} {d : DataW H} {p : List MemPlace}
set_option maxRecDepth 100000 in
theorem arg_spots_long (h : DataW.Trod enc Tryd.prog w base spare held 22 (.slice a0 n c) d p) : (d = .nil ∧ n = 0) ∨ ∃ es sp, d = .slice es sp ∧ es.length = n := by
  obtain ⟨fuel, hf⟩ := h
  rcases open_slice_fields Tryd.underlying22 Tryd.underlying51 (by kernel_rfl) (by kernel_rfl) hf with ⟨e, hx⟩ | ⟨a, len, cap, m, D, Pl, e, _, _, _, _, hx, _⟩
  · simp [Value.cells] at e
    simp only [Prod.mk.injEq] at hx
    exact .inl ⟨hx.1, e.2.1⟩
  · simp [Value.cells] at e
    simp only [Prod.mk.injEq] at hx
    exact .inr ⟨_, _, hx.1, by simp [e.2.1]⟩
end
set_option maxRecDepth 100000 in
theorem zipParts_lifted (os : Os) (started : os.Started) (H : Type) (enc : TypeId × Value → H) :
    ReturnsInHanded {} Tryd.checked os 3 .any (fun w args => (Rows.zipPartsSpec.pre enc Tryd.prog Tryd.f3 Rows.zipPartsRow.domain false w args ∧ laidMetH Tryd.prog ZLaid w) ∧ sizedMet enc Tryd.prog Tryd.f3 (OpenSpec.ofChange Rows.zipPartsSpec) false w args) (Rows.zipPartsSpec.post enc Tryd.prog Tryd.f3 false true false false) := by
  refine returnsInHanded_of_change_and (C := Tryd.checked) (X := fun w _ => laidMetH Tryd.prog ZLaid w) (fun _ _ _ hh h => h.of_heap hh) own started (by kernel_rfl) Tryd.func3
    (ChangeSpec.witness_at (enc := enc) (C := Tryd.checked) (os := os) (X := fun w _ => laidMetH Tryd.prog ZLaid w) false (laidWorldZ os) #[.slice none 0 0, .slice none 0 0, .int .i64 0] 8 rfl (by kernel_rfl) (by kernel_rfl) (by kernel_rfl) (by kernel_rfl) (by kernel_rfl) (laidZ_met os _)) ?_
  intro W base args ds gs before hval0 hW hcnd hsz0 hL _
  have hsz : (DataW.weightsEach Tryd.prog (Tryd.f3.params.toList ++ Rows.zipPartsSpec.plain.varTypes Tryd.prog) (ds ++ gs)).all (· ≤ reachBytes) = true := hsz0
  have hval : ∀ (j : Nat) t v, Tryd.f3.params[j]? = some t → args[j]? = some v → Value.okWide Tryd.prog W .any base t v := hval0
  have hW' := hW
  obtain ⟨p, q, hA0, hV, rfl, hfz, hnd⟩ := hW
  have hA : DataW.TrodAll enc Tryd.prog W 0 (fun _ => true) true Tryd.f3.params.toList args.toList ds p := hA0
  rw [Tryd.params3] at hA hval hsz
  obtain ⟨v0, vs0, d0, ds0, p0, q0, hargs, rfl, rfl, h0, r0⟩ := trodAll_cons hA
  obtain ⟨v1, vs1, d1, ds1, p1, q1, rfl, rfl, rfl, h1, r1⟩ := trodAll_cons r0
  obtain ⟨v2, vs2, d2, ds2, p2, q2, rfl, rfl, rfl, h2, r2⟩ := trodAll_cons r1
  obtain ⟨rfl, rfl, rfl⟩ := trodAll_nil r2
  obtain rfl : args = #[v0, v1, v2] := by cases args; simp_all
  obtain ⟨rfl, rfl⟩ := trodVars_none hV
  obtain ⟨a0, n0, c0, rfl⟩ := okWide_slice Tryd.underlying22 (hval 0 22 v0 rfl rfl)
  obtain ⟨a1, n1, c1, rfl⟩ := okWide_slice Tryd.underlying22 (hval 1 22 v1 rfl rfl)
  obtain ⟨n2, rfl⟩ := okWide_int Tryd.underlying3 (hval 2 3 v2 rfl rfl)
  have lt0 : ∀ x ∈ p0, x.block < W.heap.size := by obtain ⟨m, hm⟩ := h0; exact DataW.trod_lt m _ _ _ hm
  have lt1 : ∀ x ∈ p1, x.block < W.heap.size := by obtain ⟨m, hm⟩ := h1; exact DataW.trod_lt m _ _ _ hm
  have lt2 : ∀ x ∈ p2, x.block < W.heap.size := by obtain ⟨m, hm⟩ := h2; exact DataW.trod_lt m _ _ _ hm
  obtain ⟨l0, w0⟩ := arg_spots h0
  obtain ⟨l1, w1⟩ := arg_spots h1
  have w2 : -9223372036854775808 ≤ n2 ∧ n2 ≤ 9223372036854775807 := by obtain ⟨m, hm⟩ := h2; exact wf_i64 Tryd.underlying3 hm
  have hl0 : l0.length ≤ 8796093022000 := by
    obtain ⟨A', c', e, _⟩ := w0.shape
    injection e with _ e _
    rcases arg_spots_long h0 with ⟨_, hn⟩ | ⟨es, sp, rfl, he⟩
    · omega
    · have hz := sized_slice hsz (j := 0) (t := 22) (e := 51) rfl rfl Tryd.underlying22
      rw [bytesSpot] at hz
      simp only [reachBytes] at hz
      omega
  have hl1 : l1.length ≤ 8796093022000 := by
    obtain ⟨A', c', e, _⟩ := w1.shape
    injection e with _ e _
    rcases arg_spots_long h1 with ⟨_, hn⟩ | ⟨es, sp, rfl, he⟩
    · omega
    · have hz := sized_slice hsz (j := 1) (t := 22) (e := 51) rfl rfl Tryd.underlying22
      rw [bytesSpot] at hz
      simp only [reachBytes] at hz
      omega
  clear hA0 hval0
  refine (zipParts_walk l0 l1 n2 _ _ W w0 w1 (db_of_laid hL) hl0 hl1).mono fun e W' ⟨he, bel⟩ => ?_
  subst he
  exact ⟨_, rfl, _, _, _, [], _, [], hW', trodAll_mk1 (shut_bool Tryd.underlying4 _), (trodAll_cons_mk (Below.trod laidOut (by kernel_rfl) (of_decide_eq_true (by kernel_rfl)) h0 bel lt0) (trodAll_cons_mk (Below.trod laidOut (by kernel_rfl) (of_decide_eq_true (by kernel_rfl)) h1 bel lt1) (trodAll_cons_mk (Below.trod laidOut (by kernel_rfl) (of_decide_eq_true (by kernel_rfl)) h2 bel lt2) trodAll_mk0))), rfl, bel.frame _, fun h => by cases h⟩

set_option maxRecDepth 100000 in
set_option maxHeartbeats 8000000 in
theorem zipParts_closed : joinedFacts Tryd.checked.prog 3 Tryd.f3 Rows.zipPartsSpec Rows.zipPartsRow = true := by
  unfold joinedFacts
  repeat' (with_reducible refine and_true_of ?_ ?_)
  all_goals (as_aux_lemma => kernel_rfl)
theorem zipParts_over : Rows.zipPartsRow.holds Tryd.pinned (OpenSpec.ofChange Rows.zipPartsSpec) :=
  OpenClaim.holds_of_wide 3 Tryd.f3 rfl rfl rfl rfl rfl rfl rfl ⟨rfl, rfl, rfl, rfl, rfl⟩ rfl rfl rfl rfl rfl (by as_aux_lemma => kernel_rfl) Tryd.func3 zipParts_closed
    (of_decide_eq_true (by as_aux_lemma => kernel_rfl)) (by as_aux_lemma => unfold Func.isWrapper; first | (rw [if_pos (by decide +kernel)]; kernel_rfl) | (rw [if_neg (by decide +kernel)]; exact ⟨rfl, rfl⟩))
    (fun os started H enc _ => zipParts_lifted os started H enc)
set_option maxRecDepth 100000 in
theorem zipParts_proved : Rows.ZipPartsCardSaid :=
  Claim7.holds_tied_plain_at .later [] [.data] true _ false zipParts_over (fun _ h => by cases h) (by kernel_rfl) (fun _ h => by cases h) zipParts_row_tie rfl ⟨rfl, rfl⟩ (by kernel_rfl) rfl
    (fun f fn hf hfn => by
      obtain rfl : f = 3 := Option.some.inj ((show Tryd.prog.funcNamed "hedgewright/hedglaw.ZipParts" = some 3 by kernel_rfl).symm.trans hf) |>.symm
      obtain rfl : fn = Tryd.f3 := (Option.some.inj (Tryd.func3.symm.trans hfn)).symm
      exact ⟨by kernel_rfl, fun j t ht => by
        have h : (Tryd.f3.params.toList.all fun t => !Tryd.prog.wantsStandIn t) = true := by kernel_rfl
        have hm : t ∈ Tryd.f3.params.toList := by
          rw [Array.mem_toList_iff]
          exact Array.mem_of_getElem? ht
        have h2 : Tryd.prog.wantsStandIn t = false := by simpa using List.all_eq_true.1 h t hm
        exact h2⟩)
    (by kernel_rfl)
#print axioms zipParts_proved
end Go.Proofs.YtfgbbmjnjppfnaaDoor
