/-
  hedgkeep.HandsNaive: it answers true. Conditions: none.
  hedgkeep.HandsNaive: THE STATEMENT: for every input it answers true. Conditions: none.
-/
import Derived.Test.YtoihdnekkgpcoaaG16
import Derived.Test.YtoihdnekkgpcoaaG1

namespace Go.Proofs.Ytoihdnekkgpcoaa
open Go.ChangeShapes Go.WideShapes Go.ChangeAt Go.RowKit
set_option linter.unusedVariables false
set_option linter.unusedSimpArgs false

set_option maxRecDepth 100000 in
set_option maxHeartbeats 2000000 in
theorem handsNaive_walk (w : World) : Calls Try.prog 3 #[] w (Ret (.bool true) w) := by
  have HRL := hide run_nv
  obtain ⟨os, hos⟩ : ∃ os : List Obj, os = [.cells #[.int .i64 1, .int .i64 1] 23, .cells #[.int .i64 1, .int .i64 2] 23, .cells #[.slice (some ⟨w.heap.size, 0, none⟩) 1 1, .slice (some ⟨w.heap.size + 1, 0, none⟩) 1 1] 24, .cells #[.int .i64 0, .int .i64 0, .int .i64 1, .int .i64 1, .int .i64 0, .int .i64 1] 3] := ⟨_, rfl⟩
  have b1 : BC (os.foldl (fun w o => w.alloc o) w) (w.heap.size + 0) 23 [.int .i64 1, .int .i64 1] := BC.made os w 0 (by rw [hos]; rfl)
  have b2 : BC (os.foldl (fun w o => w.alloc o) w) (w.heap.size + 1) 23 [.int .i64 1, .int .i64 2] := BC.made os w 1 (by rw [hos]; rfl)
  have b3 : BC (os.foldl (fun w o => w.alloc o) w) (w.heap.size + 2) 24 [.slice (some ⟨w.heap.size, 0, none⟩) 1 1, .slice (some ⟨w.heap.size + 1, 0, none⟩) 1 1] := BC.made os w 2 (by rw [hos]; rfl)
  have b4 : BC (os.foldl (fun w o => w.alloc o) w) (w.heap.size + 3) 3 [.int .i64 0, .int .i64 0, .int .i64 1, .int .i64 1, .int .i64 0, .int .i64 1] := BC.made os w 3 (by rw [hos]; rfl)
  have kk : Kp w (os.foldl (fun w o => w.alloc o) w) := by rw [hos]; exact (Kp.refl w).alloc.alloc.alloc.alloc
  obtain ⟨W, hW⟩ : ∃ W, W = os.foldl (fun w o => w.alloc o) w := ⟨_, rfl⟩
  rw [← hW] at b1 b2 b3 b4 kk
  have HB : Hid (RDS W eDeed (.slice (some ⟨w.heap.size + 1 + 1, 0, none⟩) 2 2) Pn ∧ RD W eInt (.slice (some ⟨w.heap.size + 1 + 1 + 1, 0, none⟩) 6 6) [0, 0, 1, 1, 0, 1]) := hide (by
    refine ⟨⟨_, _, rfl, by decide, by decide, fun _ => ⟨w.heap.size + 2, 0, rfl, b3.lt, fun k hk => ?_⟩⟩, RD.block (l := [0, 0, 1, 1, 0, 1]) b4 rfl (by decide)⟩
    match k, hk with
    | 0, _ => exact ⟨_, b3.cell 0, RD.block (l := [(⟨1, 1⟩ : Dd)]) b1 rfl (by decide)⟩
    | 1, _ => exact ⟨_, b3.cell 1, RD.block (l := [(⟨1, 2⟩ : Dd)]) b2 rfl (by decide)⟩)
  rw [hos] at hW
  have hW : W = (((w.alloc (.cells #[.int .i64 1, .int .i64 1] 23)).alloc (.cells #[.int .i64 1, .int .i64 2] 23)).alloc (.cells #[.slice (some ⟨w.heap.size, 0, none⟩) 1 1, .slice (some ⟨w.heap.size + 1, 0, none⟩) 1 1] 24)).alloc (.cells #[.int .i64 0, .int .i64 0, .int .i64 1, .int .i64 1, .int .i64 0, .int .i64 1] 3) := hW
  have HW := hide hW
  have HK := hide kk
  clear b1 b2 b3 b4 kk hW hos
  go_enter Try.func3, Try.ntmps3
  go_wp2_with fail
  rw [← HW.out]
  refine (HRL.out _ _ W HB.out.1 HB.out.2).mono ?_
  rintro e w1 ⟨vd, vl, rfl, hd, hl, hk⟩
  obtain ⟨dA, dC, rfl, hdc, _⟩ := hd.shape
  obtain ⟨lA, lC, rfl, hlc, _⟩ := hl.shape
  have kk1 := HK.out.trans hk
  have HX : Hid (∀ (x y : Value) (W2 : World), W2 = w1.alloc (.cells #[x, y] 29) → Calls Try.prog 10 #[] W2 (fun e w' => e = .returned (.bool true) ∧ Kp W2 w')) := hide (fun x y W2 hW2 => (hlives_any W2).mono fun e w' h => ⟨h.1, Kp.of h.2⟩)
  obtain ⟨b, o, rfl, _, x0, x1, x2, x3, x4⟩ := hd.done (k := 0) (by decide)
  obtain ⟨_, _, e, _, y0, y1, y2, y3, y4⟩ := hd.done (k := 1) (by decide)
  cases e
  simp only [List.getElem_cons_zero, List.getElem_cons_succ, List.length_cons, List.length_nil, Nat.zero_mul, Nat.one_mul, Nat.add_zero] at x4 y4 hdc hlc
  have HK1 := hide kk1
  clear hd hl hk kk1 x0 x1 x2 x3 y0 y1 y2 y3
  go_wp2_with fail
  have hq : BC (w1.alloc (.cells #[.slice (some ⟨b, o, none⟩) 2 dC, .slice lA 1 lC] 29)) w1.heap.size 29 [.slice (some ⟨b, o, none⟩) 2 dC, .slice lA 1 lC] := BC.new _ _ _
  have ka : Kp w1 (w1.alloc (.cells #[.slice (some ⟨b, o, none⟩) 2 dC, .slice lA 1 lC] 29)) := (Kp.refl w1).alloc
  refine (HX.out _ _ _ rfl).mono ?_
  rintro e w2 ⟨rfl, hk2⟩
  have hq2 := hq.kp hk2
  have q0 : w2.cell? ⟨w1.heap.size, 0, none⟩ = some (.slice (some ⟨b, o, none⟩) 2 dC) := hq2.cell 0
  have q1 : w2.cell? ⟨w1.heap.size, 1, none⟩ = some (.slice lA 1 lC) := hq2.cell 1
  have x4 := (ka.trans hk2).cell x4
  have y4 := (ka.trans hk2).cell y4
  have HK2 := hide (HK1.out.trans (ka.trans hk2))
  obtain ⟨Z, hZ⟩ : ∃ Z, Z = w1.heap.size := ⟨_, rfl⟩
  rw [← hZ] at q0 q1 ⊢
  clear hq hq2 hk2 ka hZ
  go_wp2
  go_ret
  exact ⟨rfl, HK2.out.bel⟩
end Go.Proofs.Ytoihdnekkgpcoaa
namespace Go.Proofs.Ytoihdnekkgpcoaa
open Go.ChangeShapes Go.WideShapes Go.ChangeAt Go.RowKit Go.Deep
set_option linter.unusedVariables false
set_option linter.unusedSimpArgs false

set_option maxRecDepth 100000 in
theorem handsNaive_lifted (os : Os) (started : os.Started) (H : Type) (enc : TypeId × Value → H) :
    ReturnsInHanded {} Try.checked os 3 .any (Rows.handsNaiveSpec.pre6 enc Try.prog Try.f3 Rows.handsNaiveRow.domain false) (Rows.handsNaiveSpec.post enc Try.prog Try.f3 false true false false) := by
  refine returnsInHanded_of_change (C := Try.checked) own started (by kernel_rfl) Try.func3
    (ChangeSpec.witness6 (enc := enc) (C := Try.checked) false ⟨#[], #[], []⟩ 8 (by kernel_rfl) (by kernel_rfl) (by kernel_rfl) (by kernel_rfl)) ?_
  intro W base args ds gs before hval0 hW hcnd _
  have hW' := hW
  obtain ⟨p, q, hA0, hV, rfl, hfz, hnd⟩ := hW
  have hA : DataW.TrodAll enc Try.prog W 0 (fun _ => true) true Try.f3.params.toList args.toList ds p := hA0
  rw [Try.params3] at hA
  obtain ⟨hargs, rfl, rfl⟩ := trodAll_nil hA
  obtain rfl : args = #[] := by cases args; simp_all
  obtain ⟨rfl, rfl⟩ := trodVars_none hV
  clear hA0 hval0
  refine (handsNaive_walk  W ).mono fun e W' ⟨he, bel⟩ => ?_
  subst he
  exact ⟨_, rfl, _, _, _, [], _, [], hW', trodAll_mk1 (shut_bool Try.underlying4 _), trodAll_mk0, rfl, bel.frame _, fun h => by cases h⟩

set_option maxRecDepth 100000 in
set_option maxHeartbeats 8000000 in
theorem handsNaive_closed : joinedFacts Try.checked.prog 3 Try.f3 Rows.handsNaiveSpec Rows.handsNaiveRow = true := by
  unfold joinedFacts
  repeat' (with_reducible refine and_true_of ?_ ?_)
  all_goals (as_aux_lemma => kernel_rfl)
theorem handsNaive_over : Rows.handsNaiveRow.holds Try.pinned (OpenSpec.ofChange Rows.handsNaiveSpec) :=
  OpenClaim.holds_of_wide 3 Try.f3 rfl rfl rfl rfl rfl rfl rfl ⟨rfl, rfl, rfl, rfl, rfl⟩ rfl rfl rfl rfl rfl (by as_aux_lemma => kernel_rfl) Try.func3 handsNaive_closed
    (of_decide_eq_true (by as_aux_lemma => kernel_rfl)) (by as_aux_lemma => unfold Func.isWrapper; first | (rw [if_pos (by decide +kernel)]; kernel_rfl) | (rw [if_neg (by decide +kernel)]; exact ⟨rfl, rfl⟩))
    (fun os started H enc _ => handsNaive_lifted os started H enc)
theorem handsNaive_proved : Rows.HandsNaiveSaid := handsNaive_over
#print axioms handsNaive_proved
end Go.Proofs.Ytoihdnekkgpcoaa
