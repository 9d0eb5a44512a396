/-
  hedgkeep.BestTurned: the plain law, and the walk: it answers true. Conditions: the lists read as ints (RD), and are no longer than the platform's room.
  hedgkeep.BestTurned: THE STATEMENT: for every input it answers true. Conditions: none.
-/
import Derived.Test.YtpmhpogkpkhbfaaG15
import Derived.Test.YtpmhpogkpkhbfaaG16
import Derived.Test.YtpmhpogkpkhbfaaG3

namespace Go.Proofs.Ytpmhpogkpkhbfaa
open Go.ChangeShapes Go.WideShapes Go.ChangeAt Go.RowKit
set_option linter.unusedVariables false
set_option linter.unusedSimpArgs false

theorem gD_rev {l : List Int} {k : Nat} (h : k < l.length) : gD l.reverse k = gD l (l.length - 1 - k) := by
  rw [gD, gD, List.getD_eq_getElem?_getD, List.getD_eq_getElem?_getD, List.getElem?_reverse h]
theorem inR_rev (l : List Int) : inR l.reverse = inR l := by simp [inR]
theorem brR_rev (h g : List Int) : brR h.reverse g.reverse = brR h g := by simp only [brR, List.length_reverse, inR_rev]
theorem trB_rev (h g : List Int) : (trB h.reverse g.reverse).2 = (trB h g).2 := by
  unfold trB
  rw [brR_rev]
  by_cases e : brR h g = 0
  · obtain ⟨b1, b2, b3, b4⟩ := brR_ok e
    have c3 : ∀ x ∈ h.reverse, 0 ≤ x ∧ x ≤ 1000 := fun x hx => b3 x (List.mem_reverse.1 hx)
    have c4 : ∀ x ∈ g.reverse, 0 ≤ x ∧ x ≤ 1000 := fun x hx => b4 x (List.mem_reverse.1 hx)
    have t : Turned (gD h) (gD g) (gD h.reverse) (gD g.reverse) h.length := ⟨fun k hk => gD_rev hk, fun k hk => by rw [gD_rev (by omega)]; congr 1; omega⟩
    rw [if_pos e, if_pos e, List.length_reverse]
    simp only
    rw [t.bc (fun k => (gD_in b3 k).1) (fun k => (gD_in b4 k).1) (fun k => (gD_in c3 k).1) (fun k => (gD_in c4 k).1)]
  · rw [if_neg e, if_neg e]
set_option maxRecDepth 100000 in
set_option maxHeartbeats 4000000 in
theorem bestTurned_walk (h g : List Int) (v u : Value) (w : World) (hr : RD w eInt v h) (hu : RD w eInt u g) (hh : h.length * 8 ≤ 140737488355328) (hg : g.length * 8 ≤ 140737488355328) : Calls Try.prog 3 #[v, u] w (Ret (.bool true) w) := by
  have H0 := hide (bTree_any h g v u w hr hu)
  have H1 := hide (fun W k1 => reversed_any h v W k1 hh)
  have H2 := hide (fun W k1 => reversed_any g u W k1 hg)
  have H3 := hide (fun W v u k1 k2 => bTree_any h.reverse g.reverse v u W k1 k2)
  have hrv := trB_rev h g
  obtain ⟨A1, c1, rfl, _, _⟩ := hr.shape
  obtain ⟨A2, c2, rfl, _, _⟩ := hu.shape
  have HR := hide hr
  have HU := hide hu
  obtain ⟨⟨s, x, er⟩, hs⟩ : ∃ t, t = trB h g := ⟨_, rfl⟩
  obtain ⟨⟨s', x', er'⟩, hs'⟩ : ∃ t, t = trB h.reverse g.reverse := ⟨_, rfl⟩
  rw [← hs] at H0 hrv
  rw [← hs'] at H3 hrv
  simp only [Prod.mk.injEq] at hrv
  obtain ⟨rfl, rfl⟩ := hrv
  clear hr hu hh hg hs hs'
  go_enter Try.func3, Try.ntmps3
  go_wp2_with fail
  with_reducible refine H0.out.mono ?_
  rintro e w1 ⟨v1, rfl, hr1, kk1⟩
  have K1 := hide kk1
  clear hr1 kk1
  go_wp2_with fail
  with_reducible refine (H1.out w1 (HR.out.kp K1.out)).mono ?_
  rintro e w2 ⟨v2, rfl, ho2, hb2⟩
  have kk2 := Kp.of hb2
  have K2 := hide (K1.out.trans kk2)
  have HR2 := hide ho2.rd
  clear ho2 hb2 kk2
  go_wp2_with fail
  with_reducible refine (H2.out w2 (HU.out.kp K2.out)).mono ?_
  rintro e w3 ⟨v3, rfl, ho3, hb3⟩
  have kk3 := Kp.of hb3
  have K3 := hide (K2.out.trans kk3)
  have HR23 := hide (HR2.out.kp kk3)
  have HR3 := hide ho3.rd
  clear ho3 hb3 kk3
  go_wp2_with fail
  with_reducible refine (H3.out w3 _ _ HR23.out HR3.out).mono ?_
  rintro e w4 ⟨v4, rfl, hr4, kk4⟩
  have K4 := hide (K3.out.trans kk4)
  clear hr4 kk4
  go_wp2_with fail
  with_reducible refine (bestLives_any w4).mono ?_
  rintro e w5 ⟨rfl, hb5⟩
  have kk5 := Kp.of hb5
  clear hb5
  go_wp2
  go_ret
  exact ⟨by simp, (K4.out.trans kk5).bel⟩
end Go.Proofs.Ytpmhpogkpkhbfaa
namespace Go.Proofs.Ytpmhpogkpkhbfaa
open Go.ChangeShapes Go.WideShapes Go.ChangeAt Go.RowKit Go.Deep
set_option linter.unusedVariables false
set_option linter.unusedSimpArgs false

set_option maxRecDepth 100000 in
theorem bestTurned_lifted (os : Os) (started : os.Started) (H : Type) (enc : TypeId × Value → H) :
    ReturnsInHanded {} Try.checked os 3 .any (Rows.bestTurnedSpec.pre6 enc Try.prog Try.f3 Rows.bestTurnedRow.domain false) (Rows.bestTurnedSpec.post enc Try.prog Try.f3 false true false false) := by
  refine returnsInHanded_of_change_sized (C := Try.checked) own started (by kernel_rfl) Try.func3
    (ChangeSpec.witness6 (enc := enc) (C := Try.checked) false ⟨#[], #[.slice none 0 0, .slice none 0 0], []⟩ 8 (by kernel_rfl) (by kernel_rfl) (by kernel_rfl) (by kernel_rfl)) ?_
  intro W base args ds gs before hval0 hW hcnd hsz _
  have hval : ∀ (j : Nat) t v, Try.f3.params[j]? = some t → args[j]? = some v → Value.okWide Try.prog W .any base t v := hval0
  have hW' := hW
  obtain ⟨p, q, hA0, hV, rfl, hfz, hnd⟩ := hW
  have hA : DataW.TrodAll enc Try.prog W 0 (fun _ => true) true Try.f3.params.toList args.toList ds p := hA0
  rw [Try.params3] at hA hval
  obtain ⟨v0, vs0, d0, ds0, p0, q0, hargs, rfl, rfl, h0, r0⟩ := trodAll_cons hA
  obtain ⟨v1, vs1, d1, ds1, p1, q1, rfl, rfl, rfl, h1, r1⟩ := trodAll_cons r0
  obtain ⟨rfl, rfl, rfl⟩ := trodAll_nil r1
  obtain rfl : args = #[v0, v1] := by cases args; simp_all
  obtain ⟨rfl, rfl⟩ := trodVars_none hV
  obtain ⟨a0, n0, c0, rfl⟩ := okWide_slice Try.underlying22 (hval 0 22 v0 rfl rfl)
  obtain ⟨a1, n1, c1, rfl⟩ := okWide_slice Try.underlying22 (hval 1 22 v1 rfl rfl)
  have lt0 : ∀ x ∈ p0, x.block < W.heap.size := by obtain ⟨m, hm⟩ := h0; exact DataW.trod_lt m _ _ _ hm
  have lt1 : ∀ x ∈ p1, x.block < W.heap.size := by obtain ⟨m, hm⟩ := h1; exact DataW.trod_lt m _ _ _ hm
  obtain ⟨l0, w0⟩ := arg_ints h0
  obtain ⟨l1, w1⟩ := arg_ints h1
  have e0 : l0.length * 8 ≤ 140737488355328 := by
    have e := ints_reach hsz (j := 0) rfl rfl h0
    obtain ⟨_, _, e1, _⟩ := w0
    injection e1 with _ e1 _
    omega
  have e1 : l1.length * 8 ≤ 140737488355328 := by
    have e := ints_reach hsz (j := 1) rfl rfl h1
    obtain ⟨_, _, e1, _⟩ := w1
    injection e1 with _ e1 _
    omega
  clear hA0 hval0
  refine (bestTurned_walk l0 l1 _ _ W w0 w1 e0 e1).mono fun e W' ⟨he, bel⟩ => ?_
  subst he
  exact ⟨_, rfl, _, _, _, [], _, [], hW', trodAll_mk1 (shut_bool Try.underlying4 _), (trodAll_cons_mk (Below.trod laidOut (by kernel_rfl) (of_decide_eq_true (by kernel_rfl)) h0 bel lt0) (trodAll_cons_mk (Below.trod laidOut (by kernel_rfl) (of_decide_eq_true (by kernel_rfl)) h1 bel lt1) trodAll_mk0)), rfl, bel.frame _, fun h => by cases h⟩

set_option maxRecDepth 100000 in
set_option maxHeartbeats 8000000 in
theorem bestTurned_closed : joinedFacts Try.checked.prog 3 Try.f3 Rows.bestTurnedSpec Rows.bestTurnedRow = true := by
  unfold joinedFacts
  repeat' (with_reducible refine and_true_of ?_ ?_)
  all_goals (as_aux_lemma => kernel_rfl)
theorem bestTurned_over : Rows.bestTurnedRow.holds Try.pinned (OpenSpec.ofChange Rows.bestTurnedSpec) :=
  OpenClaim.holds_of_wide 3 Try.f3 rfl rfl rfl rfl rfl rfl rfl ⟨rfl, rfl, rfl, rfl, rfl⟩ rfl rfl rfl rfl rfl (by as_aux_lemma => kernel_rfl) Try.func3 bestTurned_closed
    (of_decide_eq_true (by as_aux_lemma => kernel_rfl)) (by as_aux_lemma => unfold Func.isWrapper; first | (rw [if_pos (by decide +kernel)]; kernel_rfl) | (rw [if_neg (by decide +kernel)]; exact ⟨rfl, rfl⟩))
    (fun os started H enc _ => bestTurned_lifted os started H enc)
theorem bestTurned_proved : Rows.BestTurnedSaid := bestTurned_over
#print axioms bestTurned_proved
end Go.Proofs.Ytpmhpogkpkhbfaa
