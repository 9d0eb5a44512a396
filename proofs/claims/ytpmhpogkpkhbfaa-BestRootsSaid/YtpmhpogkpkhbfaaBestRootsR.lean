/-
  hedgkeep.BestRoots: the walk: it answers true. Conditions: the lists read as ints (RD).
  hedgkeep.BestRoots: THE STATEMENT: for every input it answers true. Conditions: none.
-/
import Derived.Test.YtpmhpogkpkhbfaaG15
import Derived.Test.YtpmhpogkpkhbfaaG16
import Derived.Test.YtpmhpogkpkhbfaaG3

namespace Go.Proofs.Ytpmhpogkpkhbfaa
open Go.ChangeShapes Go.WideShapes Go.ChangeAt Go.RowKit
set_option linter.unusedVariables false
set_option linter.unusedSimpArgs false

theorem rowsB_at {T : Nat → Nat → Int} {n k : Nat} (h : k < n) : (rowsB T n)[k]'(by simp [rowsB]; exact h) = rowB T n k := by simp [rowsB]
theorem rowsB_len {T : Nat → Nat → Int} {n : Nat} : (rowsB T n).length = n := by simp [rowsB]
set_option maxRecDepth 100000 in
set_option maxHeartbeats 1000000 in
theorem top1_any (T : Nat → Nat → Int) (n : Nat) (hn : n ≤ 20) (g : Nat) (v : Value) (w : World) (c0 : w.cell? ⟨g, 0, none⟩ = some v) (hr : RDS w eInt v (rowsB T n)) (i j : Nat) (hij : i < j) (hj : j ≤ n) :
    Calls Try.prog 13 #[.int .i64 (i : Int), .int .i64 (j : Int), .pointer (some ⟨g, 0, none⟩)] w (fun e w' => e = .returned (.int .i64 (T i j)) ∧ w = w') := by
  obtain ⟨A, c, rfl, _, _⟩ := hr.shape
  rw [rowsB_len] at c0 hr
  obtain ⟨b, o, u, rfl, _, c1, hu⟩ := hr.at_ (k := i) (by rw [rowsB_len]; omega)
  rw [rowsB_at (by omega)] at hu
  obtain ⟨A2, cc, rfl, _, _⟩ := hu.shape
  obtain ⟨q, hq⟩ : ∃ q, q = j - i - 1 := ⟨_, rfl⟩
  have hql : q < (rowB T n i).length := by rw [rowB_len]; omega
  obtain ⟨b2, o2, rfl, _, c2⟩ := hu.int hql
  rw [rowB_at hql, show i + 1 + q = j from by omega] at c2
  obtain ⟨d, hd⟩ : ∃ d, d = j - i := ⟨_, rfl⟩
  have s1 : IntKind.i64.wrap ((j : Int) - (i : Int)) = (d : Int) := by rw [IntWalk.i64_in _ (by omega)]; omega
  have s2 : IntKind.i64.wrap ((d : Int) - 1) = (q : Int) := by rw [IntWalk.i64_in _ (by omega)]; omega
  have hin : i < n := by omega
  rw [rowB_len] at c1
  have hqd : q < n - i := by omega
  obtain ⟨x, hx⟩ : ∃ x, x = T i j := ⟨_, rfl⟩
  obtain ⟨m, hm⟩ : ∃ m, m = n - i := ⟨_, rfl⟩
  rw [← hx] at c2 ⊢
  rw [← hm] at c1 hqd
  clear hq hd hr hu hx hm
  go_enter Try.func13, Try.ntmps13
  go_wp2
  go_ret
  exact ⟨rfl, rfl⟩
def Br1Rel (n : Nat) (w : World) (iv : Value) (wr : World) : Prop := ∃ i : Nat, i ≤ n ∧ iv = .int .i64 (i : Int) ∧ w = wr
def Br2Rel (n i : Nat) (w : World) (jv : Value) (wr : World) : Prop := ∃ j : Nat, i + 2 ≤ j ∧ (j ≤ n + 1 ∨ j = i + 2) ∧ jv = .int .i64 (j : Int) ∧ w = wr
set_option maxRecDepth 100000 in
set_option maxHeartbeats 8000000 in
theorem bestRoots_walk (hits gaps : List Int) (v u : Value) (w : World) (hr : RD w eInt v hits) (hu : RD w eInt u gaps) : Calls Try.prog 5 #[v, u] w (Ret (.bool true) w) := by
  have H0 := hide (bRoots_any hits gaps v u w hr hu)
  obtain ⟨A1, c1, rfl, _, _⟩ := hr.shape
  obtain ⟨A2, c2, rfl, _, _⟩ := hu.shape
  clear hr hu
  by_cases he : brR hits gaps = 0
  · obtain ⟨b1, b2, b3, b4⟩ := brR_ok he
    rw [show rtB hits gaps = _ from if_pos he] at H0
    have HBW := hide (fun i j (h : i + 1 < j) => bt_between (h := gD hits) (g := gD gaps) (fun k => (gD_in b3 k).1) (fun k => (gD_in b4 k).1) h)
    obtain ⟨n, hn⟩ : ∃ n, n = hits.length := ⟨_, rfl⟩
    obtain ⟨T, hT⟩ : ∃ T, T = bt (gD hits) (gD gaps) := ⟨_, rfl⟩
    rw [← hn, ← hT] at H0
    rw [← hT] at HBW
    rw [← hn] at b1 ⊢
    clear he b2 b3 b4 hn hT
    go_enter Try.func5, Try.ntmps5
    go_wp2_with fail
    with_reducible refine H0.out.mono ?_
    rintro e w1 ⟨v1, rfl, hr1, kk1⟩
    obtain ⟨A3, c3, rfl, _, _⟩ := hr1.shape
    have HR1 := hide hr1
    have hrl := rowsB_len (T := T) (n := n)
    simp only [hrl] at HR1 ⊢
    clear hr1 hrl
    go_wp2_with fail
    with_reducible refine (bestLives_any _).mono ?_
    rintro e w2 ⟨rfl, hb2⟩
    have kk2 := Kp.of hb2
    have c0 : w2.cell? ⟨w1.heap.size, 0, none⟩ = some (.slice A3 n c3) := kk2.cell (by simp)
    have HR2 := hide (HR1.out.kp ((Kp.refl w1).alloc.trans kk2))
    have K2 := hide (kk1.trans ((Kp.refl w1).alloc.trans kk2))
    have HTOP := hide (fun i j h1 h2 => top1_any T n b1 w1.heap.size _ w2 c0 HR2.out i j h1 h2)
    clear hb2 kk1 kk2
    go_wp2
    go_loopw [37] (Br1Rel n w2) (fun k _ => n - (intOf k).toNat)
    case atStart => exact ⟨0, by omega, rfl, rfl⟩
    case round =>
      obtain ⟨i, hi, rfl, rfl⟩ := hrel
      by_cases hlt : i < n
      · obtain ⟨b, o, u0, rfl, _, cu, hu0⟩ := HR2.out.at_ (k := i) (by rw [rowsB_len]; exact hlt)
        rw [rowsB_at hlt] at hu0
        obtain ⟨A4, c4, rfl, _, _⟩ := hu0.shape
        rw [rowB_len] at cu
        obtain ⟨m, hm⟩ : ∃ m, m = n - i := ⟨_, rfl⟩
        rw [← hm] at cu
        have s1 : IntKind.i64.wrap ((n : Int) - (i : Int)) = (m : Int) := by rw [IntWalk.i64_in _ (by omega)]; omega
        obtain ⟨i2, hi2⟩ : ∃ i2, i2 = i + 2 := ⟨_, rfl⟩
        obtain ⟨i1, hi1⟩ : ∃ i1, i1 = i + 1 := ⟨_, rfl⟩
        have s2 : IntKind.i64.wrap ((i : Int) + 2) = (i2 : Int) := by rw [IntWalk.i64_in _ (by omega)]; omega
        have s3 : IntKind.i64.wrap ((i : Int) + 1) = (i1 : Int) := by rw [IntWalk.i64_in _ (by omega)]; omega
        have HI2 := hide hi2
        have HI1 := hide hi1
        clear hm hi2 hi1 hu0
        go_wp2
        go_loopw [10] (Br2Rel n i w2) (fun k _ => n + 1 - (intOf k).toNat)
        case atStart => exact ⟨i2, by have := HI2.out; omega, .inr HI2.out, rfl, rfl⟩
        case round =>
          obtain ⟨j, hj1, hj2, rfl, rfl⟩ := hrel
          by_cases hjn : j ≤ n
          · have d1 : decide (j ≤ n) = true := decide_eq_true hjn
            obtain ⟨j0, hj0⟩ : ∃ j0, j0 = j - 1 := ⟨_, rfl⟩
            obtain ⟨j9, hj9⟩ : ∃ j9, j9 = j + 1 := ⟨_, rfl⟩
            have s4 : IntKind.i64.wrap ((j : Int) - 1) = (j0 : Int) := by rw [IntWalk.i64_in _ (by omega)]; omega
            have s5 : IntKind.i64.wrap ((j : Int) + 1) = (j9 : Int) := by rw [IntWalk.i64_in _ (by omega)]; omega
            have hbw := HBW.out i j (by omega)
            have e1 := HI1.out
            rw [← hj0, ← e1] at hbw
            have T1 := hide (HTOP.out i j0 (by omega) (by omega))
            have T2 := hide (HTOP.out i j (by omega) hjn)
            have T3 := hide (HTOP.out i1 j (by omega) hjn)
            obtain ⟨x1, hx1⟩ : ∃ x, x = T i j0 := ⟨_, rfl⟩
            obtain ⟨x2, hx2⟩ : ∃ x, x = T i j := ⟨_, rfl⟩
            obtain ⟨x3, hx3⟩ : ∃ x, x = T i1 j := ⟨_, rfl⟩
            rw [← hx1] at T1 hbw
            rw [← hx2] at T2 hbw
            rw [← hx3] at T3 hbw
            have d2 : decide (x2 < x1) = false := decide_eq_false (by omega)
            have d3 : decide (x3 < x2) = false := decide_eq_false (by omega)
            have d4 : decide (i1 < j) = true := decide_eq_true (by omega)
            have HJ9 := hide hj9
            clear hj0 hj9 hbw hx1 hx2 hx3 e1
            go_wp2_with (first
              | (go_at_call 13; (with_reducible refine T1.out.mono ?_); rintro e w7 ⟨rfl, rfl⟩)
              | (go_at_call 13; (with_reducible refine T2.out.mono ?_); rintro e w7 ⟨rfl, rfl⟩)
              | (go_at_call 13; (with_reducible refine T3.out.mono ?_); rintro e w7 ⟨rfl, rfl⟩))
            go_roundw
            case rel => exact ⟨j9, by have := HJ9.out; omega, .inl (by have := HJ9.out; omega), rfl, rfl⟩
            case measure => have := HJ9.out; simp [intOf]; omega
          · have d1 : decide (j ≤ n) = false := decide_eq_false hjn
            go_wp2
            go_roundw
            case rel => exact ⟨i1, by have := HI1.out; omega, rfl, rfl⟩
            case measure => have := HI1.out; simp [intOf]; omega
      · go_wp2
        go_ret
        exact ⟨rfl, K2.out.bel⟩
  · rw [show rtB hits gaps = _ from if_neg he] at H0
    obtain ⟨er, her⟩ : ∃ er, er = brR hits gaps := ⟨_, rfl⟩
    rw [← her] at H0 he
    have d1 : (er != 0) = true := by simpa using he
    clear he her
    go_enter Try.func5, Try.ntmps5
    go_wp2_with fail
    with_reducible refine H0.out.mono ?_
    rintro e w1 ⟨v1, rfl, hr1, kk1⟩
    obtain ⟨A3, c3, rfl, _, _⟩ := hr1.shape
    clear hr1
    go_wp2_with fail
    with_reducible refine (bestLives_any _).mono ?_
    rintro e w2 ⟨rfl, hb2⟩
    have kk2 := Kp.of hb2
    clear hb2
    go_wp2_with fail
    with_reducible refine (bestLives_any _).mono ?_
    rintro e w3 ⟨rfl, hb3⟩
    have kk3 := Kp.of hb3
    have c0 : w3.cell? ⟨w1.heap.size, 0, none⟩ = some (.slice A3 ([] : List (List Int)).length c3) := kk3.cell (kk2.cell (by simp))
    simp only [List.length_nil] at c0
    clear hb3
    go_wp2
    go_ret
    exact ⟨by simp, (kk1.trans ((Kp.refl w1).alloc.trans (kk2.trans kk3))).bel⟩
end Go.Proofs.Ytpmhpogkpkhbfaa
namespace Go.Proofs.Ytpmhpogkpkhbfaa
open Go.ChangeShapes Go.WideShapes Go.ChangeAt Go.RowKit Go.Deep
set_option linter.unusedVariables false
set_option linter.unusedSimpArgs false

set_option maxRecDepth 100000 in
theorem bestRoots_lifted (os : Os) (started : os.Started) (H : Type) (enc : TypeId × Value → H) :
    ReturnsInHanded {} Try.checked os 5 .any (Rows.bestRootsSpec.pre6 enc Try.prog Try.f5 Rows.bestRootsRow.domain false) (Rows.bestRootsSpec.post enc Try.prog Try.f5 false true false false) := by
  refine returnsInHanded_of_change (C := Try.checked) own started (by kernel_rfl) Try.func5
    (ChangeSpec.witness6 (enc := enc) (C := Try.checked) false ⟨#[], #[.slice none 0 0, .slice none 0 0], []⟩ 8 (by kernel_rfl) (by kernel_rfl) (by kernel_rfl) (by kernel_rfl)) ?_
  intro W base args ds gs before hval0 hW hcnd _
  have hval : ∀ (j : Nat) t v, Try.f5.params[j]? = some t → args[j]? = some v → Value.okWide Try.prog W .any base t v := hval0
  have hW' := hW
  obtain ⟨p, q, hA0, hV, rfl, hfz, hnd⟩ := hW
  have hA : DataW.TrodAll enc Try.prog W 0 (fun _ => true) true Try.f5.params.toList args.toList ds p := hA0
  rw [Try.params5] at hA hval
  obtain ⟨v0, vs0, d0, ds0, p0, q0, hargs, rfl, rfl, h0, r0⟩ := trodAll_cons hA
  obtain ⟨v1, vs1, d1, ds1, p1, q1, rfl, rfl, rfl, h1, r1⟩ := trodAll_cons r0
  obtain ⟨rfl, rfl, rfl⟩ := trodAll_nil r1
  obtain rfl : args = #[v0, v1] := by cases args; simp_all
  obtain ⟨rfl, rfl⟩ := trodVars_none hV
  obtain ⟨a0, n0, c0, rfl⟩ := okWide_slice Try.underlying22 (hval 0 22 v0 rfl rfl)
  obtain ⟨a1, n1, c1, rfl⟩ := okWide_slice Try.underlying22 (hval 1 22 v1 rfl rfl)
  have lt0 : ∀ x ∈ p0, x.block < W.heap.size := by obtain ⟨m, hm⟩ := h0; exact DataW.trod_lt m _ _ _ hm
  have lt1 : ∀ x ∈ p1, x.block < W.heap.size := by obtain ⟨m, hm⟩ := h1; exact DataW.trod_lt m _ _ _ hm
  obtain ⟨l0, w0⟩ := arg_ints h0
  obtain ⟨l1, w1⟩ := arg_ints h1
  clear hA0 hval0
  refine (bestRoots_walk l0 l1 _ _ W w0 w1).mono fun e W' ⟨he, bel⟩ => ?_
  subst he
  exact ⟨_, rfl, _, _, _, [], _, [], hW', trodAll_mk1 (shut_bool Try.underlying4 _), (trodAll_cons_mk (Below.trod laidOut (by kernel_rfl) (of_decide_eq_true (by kernel_rfl)) h0 bel lt0) (trodAll_cons_mk (Below.trod laidOut (by kernel_rfl) (of_decide_eq_true (by kernel_rfl)) h1 bel lt1) trodAll_mk0)), rfl, bel.frame _, fun h => by cases h⟩

set_option maxRecDepth 100000 in
set_option maxHeartbeats 8000000 in
theorem bestRoots_closed : joinedFacts Try.checked.prog 5 Try.f5 Rows.bestRootsSpec Rows.bestRootsRow = true := by
  unfold joinedFacts
  repeat' (with_reducible refine and_true_of ?_ ?_)
  all_goals (as_aux_lemma => kernel_rfl)
theorem bestRoots_over : Rows.bestRootsRow.holds Try.pinned (OpenSpec.ofChange Rows.bestRootsSpec) :=
  OpenClaim.holds_of_wide 5 Try.f5 rfl rfl rfl rfl rfl rfl rfl ⟨rfl, rfl, rfl, rfl, rfl⟩ rfl rfl rfl rfl rfl (by as_aux_lemma => kernel_rfl) Try.func5 bestRoots_closed
    (of_decide_eq_true (by as_aux_lemma => kernel_rfl)) (by as_aux_lemma => unfold Func.isWrapper; first | (rw [if_pos (by decide +kernel)]; kernel_rfl) | (rw [if_neg (by decide +kernel)]; exact ⟨rfl, rfl⟩))
    (fun os started H enc _ => bestRoots_lifted os started H enc)
theorem bestRoots_proved : Rows.BestRootsSaid := bestRoots_over
#print axioms bestRoots_proved
end Go.Proofs.Ytpmhpogkpkhbfaa
