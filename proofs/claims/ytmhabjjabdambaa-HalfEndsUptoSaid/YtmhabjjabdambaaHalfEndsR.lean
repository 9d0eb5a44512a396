/-
  hedgkeep.HalfEnds: the walk: it answers true. Conditions: the list reads as l (RD), not longer than a million.
  hedgkeep.HalfEnds: THE STATEMENT of the second form: for every input of the bound it answers true. Conditions: none.
-/
import Derived.Test.YtmhabjjabdambaaG16
import Derived.Test.YtmhabjjabdambaaG2

namespace Go.Proofs.Ytmhabjjabdambaa
open Go.ChangeShapes Go.WideShapes Go.ChangeAt Go.RowKit
set_option linter.unusedVariables false
set_option linter.unusedSimpArgs false

theorem puts_all (l : List Int) : ∀ (S : List Int) (A : List An), inHalf l → ((l.map pO).foldl hStep (S, A)).1 = l.foldl insU S := by
  induction l with
  | nil => exact fun _ _ _ => rfl
  | cons k l ih =>
    intro S A h
    have hk := h k (by simp)
    simp only [List.map_cons, List.foldl_cons, hStep, pO, hDo_put _ hk]
    exact ih _ _ (fun x hx => h x (by simp [hx]))
theorem ends_err (l : List Int) : (hEnds l).2.2 ≠ 0 → (hEnds l).1 = 0 ∧ (hEnds l).2.1 = 0 := by
  unfold hEnds
  split
  · exact fun _ => ⟨rfl, rfl⟩
  · split
    · exact fun _ => ⟨rfl, rfl⟩
    · split
      · exact fun h => absurd rfl h
      · exact fun _ => ⟨rfl, rfl⟩
theorem ends_ok (l : List Int) (h : (hEnds l).2.2 = 0) : l.length ≤ 300 ∧ inHalf l ∧ (insAll l).head? = some (hEnds l).1 ∧ (insAll l).getLast? = some (hEnds l).2.1 := by
  unfold hEnds at h ⊢
  split at h
  · simp at h
  · rename_i h1
    rw [if_neg h1]
    split at h
    · simp at h
    · rename_i h2
      rw [if_neg h2]
      cases e1 : (insAll l).head? with
      | none => rw [e1] at h; simp at h
      | some a =>
        cases e2 : (insAll l).getLast? with
        | none => rw [e1, e2] at h; simp at h
        | some b => exact ⟨by omega, Decidable.of_not_not h2, rfl, rfl⟩
set_option maxRecDepth 100000 in
set_option maxHeartbeats 8000000 in
theorem halfEnds_walk (l : List Int) (v : Value) (w : World) (hr : RD w eInt v l) (hlen : l.length ≤ 1048576) : Calls Try.prog 3 #[v] w (Ret (.bool true) w) := by
  have HRD0 := hide hr
  have HEE := hide (fun W v h => hEnds_any l v W h)
  have HPA := hide (fun W v h => putAll_any l v W h hlen)
  have HRU := hide (fun W v h => hRun_any (l.map pO) v W h)
  have hbad := ends_err l
  have hgood := ends_ok l
  have hm : hRun (l.map pO) = if l.length > 300 then ([], [], 2) else ((hRunL (l.map pO)).1, (hRunL (l.map pO)).2, 0) := by rw [hRun, List.length_map]
  obtain ⟨⟨lo, hi, er⟩, hE⟩ : ∃ E, E = hEnds l := ⟨_, rfl⟩
  rw [← hE] at HEE hbad hgood
  simp only at hbad hgood
  by_cases he : er = 0
  · subst he
    obtain ⟨g1, g2, g3, g4⟩ := hgood rfl
    rw [if_neg (by omega)] at hm
    have hS : (hRunL (l.map pO)).1 = insAll l := puts_all l [] [] g2
    have hSl : (hRunL (l.map pO)).1.length ≤ 300 := by have := (hRunL_st (l.map pO)).2; simp at this; omega
    obtain ⟨⟨S, An0⟩, hR⟩ : ∃ R, R = hRunL (l.map pO) := ⟨_, rfl⟩
    rw [← hR] at hm hS hSl
    simp only at hS hSl hm
    rw [hm] at HRU
    rw [← hS] at g3 g4
    have h0 : 0 < S.length := by cases S with | nil => simp at g3 | cons a S => simp
    rw [List.head?_eq_getElem?] at g3
    rw [List.getLast?_eq_getElem?] at g4
    obtain ⟨N1, hN1⟩ : ∃ N1, N1 = S.length - 1 := ⟨_, rfl⟩
    rw [← hN1] at g4
    obtain ⟨_, q3⟩ := List.getElem?_eq_some_iff.1 g3
    obtain ⟨q5, q4⟩ := List.getElem?_eq_some_iff.1 g4
    have HQ3 := hide q3
    have HQ4 := hide q4
    have HQ5 := hide q5
    have d0 : decide (0 < S.length) = true := by simp; omega
    have j1 : IntKind.i64.wrap ((S.length : Int) - 1) = (N1 : Int) := by rw [IntWalk.i64_in _ (by omega)]; omega
    have i0 : (0 : Int) < (S.length : Int) := by omega
    have i1 : (0 : Int) ≤ (N1 : Int) := by omega
    have i2 : (N1 : Int) < (S.length : Int) := by omega
    clear hr hbad hgood hm hE g1 g2 g3 g4 hS hR hN1 q3 q4
    go_enter Try.func3, Try.ntmps3
    go_wp2_with fail
    with_reducible refine (HEE.out _ _ HRD0.out).mono ?_
    rintro e w1 ⟨rfl, kk1⟩
    go_wp2_with fail
    with_reducible refine (HPA.out _ _ (HRD0.out.kp kk1)).mono ?_
    rintro e w2 ⟨v2, rfl, ho2, hb2⟩
    have kk2 := Kp.of hb2
    have HR2 := hide ho2.rd
    clear ho2 hb2
    go_wp2_with fail
    with_reducible refine (HRU.out _ _ HR2.out).mono ?_
    rintro e w3 ⟨v3, u3, rfl, ho3, hu3, kk3⟩
    have HRS := hide ho3.rd
    obtain ⟨A3, c3, rfl, _, _⟩ := ho3.rd.shape
    clear ho3 hu3
    go_wp2_with fail
    with_reducible refine (halfLives_any _).mono ?_
    rintro e w4 ⟨rfl, hb4⟩
    have kk4 := Kp.of hb4
    clear hb4
    have hu := HRS.out.kp kk4
    obtain ⟨b, o, rfl, _, x0⟩ := hu.int h0
    obtain ⟨b', o', hA', _, x1⟩ := hu.int HQ5.out
    injection hA' with hA'
    injection hA' with e1 e2
    subst e1 e2
    rw [HQ3.out] at x0
    rw [HQ4.out] at x1
    have x0' : w4.cell? ⟨b, o, none⟩ = some (.int .i64 lo) := x0
    clear hu x0
    go_wp2
    go_ret
    exact ⟨rfl, (kk1.trans (kk2.trans (kk3.trans kk4))).bel⟩
  · obtain ⟨rfl, rfl⟩ := hbad he
    have hne : (er != 0) = true := by simp [he]
    obtain ⟨⟨S, An0, er2⟩, hR⟩ : ∃ R, R = hRun (l.map pO) := ⟨_, rfl⟩
    rw [← hR] at HRU
    clear hr hgood hm hE he hR hbad
    go_enter Try.func3, Try.ntmps3
    go_wp2_with fail
    with_reducible refine (HEE.out _ _ HRD0.out).mono ?_
    rintro e w1 ⟨rfl, kk1⟩
    go_wp2_with fail
    with_reducible refine (HPA.out _ _ (HRD0.out.kp kk1)).mono ?_
    rintro e w2 ⟨v2, rfl, ho2, hb2⟩
    have kk2 := Kp.of hb2
    have HR2 := hide ho2.rd
    clear ho2 hb2
    go_wp2_with fail
    with_reducible refine (HRU.out _ _ HR2.out).mono ?_
    rintro e w3 ⟨v3, u3, rfl, ho3, hu3, kk3⟩
    have HRS := hide ho3.rd
    obtain ⟨A3, c3, rfl, _, _⟩ := ho3.rd.shape
    clear ho3 hu3
    go_wp2_with fail
    with_reducible refine (halfLives_any _).mono ?_
    rintro e w4 ⟨rfl, hb4⟩
    have kk4 := Kp.of hb4
    clear hb4
    go_wp2_with fail
    with_reducible refine (halfLives_any _).mono ?_
    rintro e w5 ⟨rfl, hb5⟩
    have kk5 := Kp.of hb5
    clear hb5
    go_wp2
    go_ret
    exact ⟨rfl, (kk1.trans (kk2.trans (kk3.trans (kk4.trans kk5)))).bel⟩
end Go.Proofs.Ytmhabjjabdambaa
namespace Go.Proofs.Ytmhabjjabdambaa
open Go.ChangeShapes Go.WideShapes Go.ChangeAt Go.RowKit Go.Deep
set_option linter.unusedVariables false
set_option linter.unusedSimpArgs false

set_option maxRecDepth 100000 in
theorem halfEnds_lifted (os : Os) (started : os.Started) (H : Type) (enc : TypeId × Value → H) (F : Stop.Interp) :
    ReturnsInHanded {} Try.checked os 3 .any ((Rows.OpenSpec.upto Rows.halfEndsSpec).pre6 enc Try.prog Try.f3 Rows.halfEndsUptoRow.domain false) (((Rows.OpenSpec.upto Rows.halfEndsSpec).at F).post enc Try.prog Try.f3 false true false false) := by
  refine returnsInHanded_of_cond (C := Try.checked) (s := Rows.OpenSpec.upto Rows.halfEndsSpec) (k := Rows.uptoSmall) rfl own started (by kernel_rfl) Try.func3
    (OpenSpec.witness (enc := enc) (C := Try.checked) (s := Rows.OpenSpec.upto Rows.halfEndsSpec) (k := Rows.uptoSmall) rfl false ⟨#[], #[.slice none 0 0], []⟩ 8 (by kernel_rfl) (by kernel_rfl) (by kernel_rfl)
      (x := ([.nil], [], [])) (by kernel_rfl) rfl (by kernel_rfl)) ?_
  intro W base args ds gs before hval0 hW hcnd hsm _
  have hval : ∀ (j : Nat) t v, Try.f3.params[j]? = some t → args[j]? = some v → Value.okWide Try.prog W .any base t v := hval0
  have hW' := hW
  obtain ⟨p, q, hA0, hV, rfl, hfz, hnd⟩ := hW
  have hA : DataW.TrodAll enc Try.prog W 0 (fun _ => true) true Try.f3.params.toList args.toList ds p := hA0
  rw [Try.params3] at hA hval
  obtain ⟨v0, vs0, d0, ds0, p0, q0, hargs, rfl, rfl, h0, r0⟩ := trodAll_cons hA
  obtain ⟨rfl, rfl, rfl⟩ := trodAll_nil r0
  obtain rfl : args = #[v0] := by cases args; simp_all
  obtain ⟨rfl, rfl⟩ := trodVars_none hV
  obtain ⟨a0, n0, c0, rfl⟩ := okWide_slice Try.underlying22 (hval 0 22 v0 rfl rfl)
  have lt0 : ∀ x ∈ p0, x.block < W.heap.size := by obtain ⟨m, hm⟩ := h0; exact DataW.trod_lt m _ _ _ hm
  obtain ⟨l0, w0⟩ := arg_ints h0
  have b0 : l0.length ≤ 1048576 := by
    obtain ⟨_, _, e, _⟩ := w0
    injection e with _ e _
    have u1 := ints_bulk h0
    have u2 := upto_part hsm (d := d0) (by simp)
    omega
  clear hA0 hval0
  refine (halfEnds_walk l0 _ W w0 b0).mono fun e W' ⟨he, bel⟩ => ?_
  subst he
  exact ⟨_, rfl, _, _, _, [], _, [], hW', trodAll_mk1 (shut_bool Try.underlying4 _), (trodAll_cons_mk (Below.trod laidOut (by kernel_rfl) (of_decide_eq_true (by kernel_rfl)) h0 bel lt0) trodAll_mk0), rfl, bel.frame _, fun h => by cases h⟩

set_option maxRecDepth 100000 in
set_option maxHeartbeats 8000000 in
theorem halfEnds_closed : joinedFacts Try.checked.prog 3 Try.f3 (Rows.OpenSpec.upto Rows.halfEndsSpec).bare Rows.halfEndsUptoRow = true := by
  unfold joinedFacts
  repeat' (with_reducible refine and_true_of ?_ ?_)
  all_goals (as_aux_lemma => kernel_rfl)
theorem halfEnds_over : Rows.halfEndsUptoRow.holds Try.pinned (Rows.OpenSpec.upto Rows.halfEndsSpec) :=
  OpenClaim.holds_of_cond 3 Try.f3 rfl rfl rfl rfl rfl rfl rfl ⟨rfl, rfl, rfl, rfl, rfl⟩ rfl rfl rfl rfl rfl (by as_aux_lemma => kernel_rfl) Try.func3 halfEnds_closed
    (of_decide_eq_true (by as_aux_lemma => kernel_rfl)) (by as_aux_lemma => unfold Func.isWrapper; first | (rw [if_pos (by decide +kernel)]; kernel_rfl) | (rw [if_neg (by decide +kernel)]; exact ⟨rfl, rfl⟩))
    (fun os started H enc _ F => halfEnds_lifted os started H enc F)
theorem halfEnds_proved : Rows.HalfEndsUptoSaid := halfEnds_over
#print axioms halfEnds_proved
end Go.Proofs.Ytmhabjjabdambaa
