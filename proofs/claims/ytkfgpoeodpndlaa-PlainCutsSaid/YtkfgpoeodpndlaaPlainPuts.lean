/-
  hedgkeep.PlainPuts: the walk: it answers true. Conditions: the list reads as l (RD).
-/
import Derived.Test.YtkfgpoeodpndlaaPlainLaw
namespace Go.Proofs.Ytkfgpoeodpndlaa
open Go.ChangeShapes Go.WideShapes Go.ChangeAt Go.RowKit
set_option linter.unusedVariables false
set_option linter.unusedSimpArgs false

/-- What a put that goes through leaves. -/
theorem put_ok (l : List IP) (key value : Int) (h : (doA l 1 key value).2.err = 0) : mapRight l = 0 ∧ (0 ≤ key ∧ key ≤ 1000000) ∧
    ∃ T M D, l = T ++ M ++ D ∧ TD T D key ∧ Rise T ∧ Rise D ∧ (M = [] ∨ ∃ v, M = [(key, v)]) ∧ (∀ u, doA l 1 key u = (T ++ [(key, u)] ++ D, ⟨0, 0, 0, !M.isEmpty⟩)) ∧ ∀ u, mapRight (T ++ [(key, u)] ++ D) = 0 := by
  by_cases h0 : mapRight l = 0
  · by_cases hk : 0 ≤ key ∧ key ≤ 1000000
    · refine ⟨h0, hk, ?_⟩
      obtain ⟨T, M, D, hl, htd, hT, hD, hM⟩ := td_of l (rise_of h0) key
      obtain ⟨hlen, _, hin⟩ := (mapRight_iff l).1 h0
      rw [doA_put key value h0 hk] at h
      have hput : ∀ u, putL l key u = (T ++ [(key, u)] ++ D, ⟨0, 0, 0, !M.isEmpty⟩) ∧ (T ++ [(key, u)] ++ D).length ≤ 200 := by
        intro u
        rcases hM with rfl | ⟨v, rfl⟩
        · rw [List.append_nil] at hl
          rw [hl, htd.put_no] at h
          rw [hl, htd.put_no]
          by_cases h2 : (T ++ D).length = 200
          · rw [if_pos h2] at h; simp at h
          · rw [if_neg h2]
            rw [hl] at hlen
            refine ⟨rfl, ?_⟩
            simp at hlen h2 ⊢; omega
        · rw [hl, htd.put_one]
          rw [hl] at hlen
          refine ⟨rfl, ?_⟩
          simp at hlen ⊢; omega
      refine ⟨T, M, D, hl, htd, hT, hD, hM, fun u => by rw [doA_put key u h0 hk]; exact (hput u).1, fun u => ?_⟩
      rw [mapRight_iff]
      refine ⟨(hput u).2, rise_mid (M := []) htd hT hD u, fun x hx => ?_⟩
      simp only [List.mem_append, List.mem_singleton] at hx
      rcases hx with (hx | rfl) | hx
      · exact hin x (by rw [hl]; simp [hx])
      · exact hk
      · exact hin x (by rw [hl]; simp [hx])
    · rw [doA_arg key value 1 h0 (by omega) hk] at h; simp at h
  · rw [doA_bad key value 1 h0] at h; exact absurd h h0
/-- What is read of another key. -/
theorem get_same (l m : List IP) (o : Int) (hl : mapRight l = 0) (hm : mapRight m = 0) (h : getL l o = getL m o) : (doA l 2 o 0).2 = (doA m 2 o 0).2 := by
  by_cases hk : 0 ≤ o ∧ o ≤ 1000000
  · rw [doA_get o 0 hl hk, doA_get o 0 hm hk, h]
  · rw [doA_arg o 0 2 hl (by omega) hk, doA_arg o 0 2 hm (by omega) hk]

set_option maxRecDepth 100000 in
set_option maxHeartbeats 8000000 in
theorem plainPuts_walk (l : List IP) (key value other : Int) (v : Value) (w : World) (hr : RD w ePair v l) (h1 : -9223372036854775808 ≤ key ∧ key ≤ 9223372036854775807) (h2 : -9223372036854775808 ≤ value ∧ value ≤ 9223372036854775807) (h3 : -9223372036854775808 ≤ other ∧ other ≤ 9223372036854775807) :
    Calls Try.prog 4 #[v, .int .i64 key, .int .i64 value, .int .i64 other] w (Ret (.bool true) w) := by
  have HR := hide hr
  clear hr h1 h2 h3
  by_cases herr : (doA l 1 key value).2.err = 0
  · obtain ⟨h0, hk, T, M, D, hl, htd, hT, hD, hM, hput, hright⟩ := put_ok l key value herr
    have hm := hright value
    obtain ⟨m, hme⟩ : ∃ m, m = T ++ [(key, value)] ++ D := ⟨_, rfl⟩
    obtain ⟨n, hne⟩ : ∃ n, n = T ++ [(key, other)] ++ D := ⟨_, rfl⟩
    have e1 : doA l 1 key value = (m, ⟨0, 0, 0, !M.isEmpty⟩) := by rw [hput, hme]
    have e2 : doA m 2 key 0 = (m, ⟨0, 0, value, true⟩) := by rw [doA_get key 0 (by rw [hme]; exact hm) hk, hme, htd.get_one]
    have e3 : doA m 1 key other = (n, ⟨0, 0, 0, true⟩) := by rw [doA_put key other (by rw [hme]; exact hm) hk, hme, htd.put_one, hne]
    have e4 : doA l 1 key other = (n, ⟨0, 0, 0, !M.isEmpty⟩) := by rw [hput, hne]
    have e5 : other ≠ key → (doA m 2 other 0).2 = (doA l 2 other 0).2 := fun ho => by
      refine get_same m l other (by rw [hme]; exact hm) h0 ?_
      rw [hme, hl]
      refine get_other T D _ _ key other (rise_of hm) (by rw [← hl]; exact rise_of h0) (TD.one key value) ?_ ho
      rcases hM with rfl | ⟨u, rfl⟩
      · simp
      · exact TD.one key u
    obtain ⟨m2, X, hX⟩ : ∃ m2 X, doA m 2 other 0 = (m2, X) := ⟨_, _, rfl⟩
    obtain ⟨l2, Y, hY⟩ : ∃ l2 Y, doA l 2 other 0 = (l2, Y) := ⟨_, _, rfl⟩
    rw [hX, hY] at e5
    have H1 := hide (fun W v h => do_to l 1 key value _ e1 v W h)
    have H3 := hide (fun W v h => do_to m 2 key 0 _ e2 v W h)
    have H4 := hide (fun W v h => do_to m 2 other 0 _ hX v W h)
    have H5 := hide (fun W v h => do_to l 2 other 0 _ hY v W h)
    have H6 := hide (fun W v h => do_to m 1 key other _ e3 v W h)
    have H7 := hide (fun W v h => do_to l 1 key other _ e4 v W h)
    have H8 := hide (fun W v h => check_any m v W h)
    rw [show mapRight m = 0 by rw [hme]; exact hm] at H8
    obtain ⟨is, his⟩ : ∃ is, is = !M.isEmpty := ⟨_, rfl⟩
    rw [← his] at H1 H7
    obtain ⟨xa, xb, xc, xd⟩ := X
    obtain ⟨ya, yb, yc, yd⟩ := Y
    simp only at e5
    clear herr h0 hk hl htd hT hD hM hput hright hm hme hne e1 e2 e3 e4 hX hY his
    by_cases ho : other = key
    · have to : (other == key) = true := by simp [ho]
      clear ho e5
      go_enter Try.func4, Try.ntmps4
      go_wp2_with fail
      refine (H1.out _ _ (HR.out.kp (by (focus ((repeat (first | (with_reducible assumption) | (with_reducible exact Kp.refl _) | (with_reducible apply Kp.drew) | (with_reducible apply Kp.drewN) | (with_reducible apply Kp.alloc) | ((with_reducible apply Kp.callK); (with_reducible assumption)))); done))))).mono ?_
      rintro e w1 ⟨v1, rfl, hr1, hb1⟩
      have kk1 := Kp.of hb1
      have HR1 := hide hr1.rd
      clear hr1 hb1
      simp only [An.v]
      go_wp2_with fail
      refine (plainLives_any _).mono ?_
      rintro e w2 ⟨rfl, hb2⟩
      have kk2 := Kp.of hb2
      clear hb2
      obtain ⟨a0, _, _, _⟩ := (BX.new w1 0 0 0 is 27).kp kk2
      simp only at a0
      go_wp2_with fail
      refine (H3.out _ _ (HR1.out.kp (by (focus ((repeat (first | (with_reducible assumption) | (with_reducible exact Kp.refl _) | (with_reducible apply Kp.drew) | (with_reducible apply Kp.drewN) | (with_reducible apply Kp.alloc) | ((with_reducible apply Kp.callK); (with_reducible assumption)))); done))))).mono ?_
      rintro e w3 ⟨v3, rfl, hr3, hb3⟩
      have kk3 := Kp.of hb3
      have HR3 := hide hr3.rd
      clear hr3 hb3
      simp only [An.v]
      go_wp2_with fail
      refine (H4.out _ _ (HR1.out.kp (by (focus ((repeat (first | (with_reducible assumption) | (with_reducible exact Kp.refl _) | (with_reducible apply Kp.drew) | (with_reducible apply Kp.drewN) | (with_reducible apply Kp.alloc) | ((with_reducible apply Kp.callK); (with_reducible assumption)))); done))))).mono ?_
      rintro e w4 ⟨v4, rfl, hr4, hb4⟩
      have kk4 := Kp.of hb4
      have HR4 := hide hr4.rd
      clear hr4 hb4
      simp only [An.v]
      go_wp2_with fail
      refine (H5.out _ _ (HR.out.kp (by (focus ((repeat (first | (with_reducible assumption) | (with_reducible exact Kp.refl _) | (with_reducible apply Kp.drew) | (with_reducible apply Kp.drewN) | (with_reducible apply Kp.alloc) | ((with_reducible apply Kp.callK); (with_reducible assumption)))); done))))).mono ?_
      rintro e w5 ⟨v5, rfl, hr5, hb5⟩
      have kk5 := Kp.of hb5
      have HR5 := hide hr5.rd
      clear hr5 hb5
      simp only [An.v]
      go_wp2_with fail
      refine (H6.out _ _ (HR1.out.kp (by (focus ((repeat (first | (with_reducible assumption) | (with_reducible exact Kp.refl _) | (with_reducible apply Kp.drew) | (with_reducible apply Kp.drewN) | (with_reducible apply Kp.alloc) | ((with_reducible apply Kp.callK); (with_reducible assumption)))); done))))).mono ?_
      rintro e w6 ⟨v6, rfl, hr6, hb6⟩
      have kk6 := Kp.of hb6
      have HR6 := hide hr6.rd
      clear hr6 hb6
      simp only [An.v]
      go_wp2_with fail
      refine (H7.out _ _ (HR.out.kp (by (focus ((repeat (first | (with_reducible assumption) | (with_reducible exact Kp.refl _) | (with_reducible apply Kp.drew) | (with_reducible apply Kp.drewN) | (with_reducible apply Kp.alloc) | ((with_reducible apply Kp.callK); (with_reducible assumption)))); done))))).mono ?_
      rintro e w7 ⟨v7, rfl, hr7, hb7⟩
      have kk7 := Kp.of hb7
      have HR7 := hide hr7.rd
      clear hr7 hb7
      simp only [An.v]
      clear a0
      have KF : Kp w7 (w7.alloc (.cells #[.int .i64 0, .int .i64 0, .int .i64 0, .bool is] 27)) := (Kp.refl w7).alloc
      obtain ⟨b0, b1, b2, b3⟩ := (BX.new w3 0 0 value true 27).kp (show Kp _ (w7.alloc (.cells #[.int .i64 0, .int .i64 0, .int .i64 0, .bool is] 27)) by (focus ((repeat (first | (with_reducible assumption) | (with_reducible exact Kp.refl _) | (with_reducible apply Kp.drew) | (with_reducible apply Kp.drewN) | (with_reducible apply Kp.alloc) | ((with_reducible apply Kp.callK); (with_reducible assumption)))); done)))
      obtain ⟨c0, c1, c2, c3⟩ := (BX.new w4 xa xb xc xd 27).kp (show Kp _ (w7.alloc (.cells #[.int .i64 0, .int .i64 0, .int .i64 0, .bool is] 27)) by (focus ((repeat (first | (with_reducible assumption) | (with_reducible exact Kp.refl _) | (with_reducible apply Kp.drew) | (with_reducible apply Kp.drewN) | (with_reducible apply Kp.alloc) | ((with_reducible apply Kp.callK); (with_reducible assumption)))); done)))
      obtain ⟨d0, d1, d2, d3⟩ := (BX.new w5 _ _ _ _ 27).kp (show Kp (w5.alloc (.cells #[.int .i64 ya, .int .i64 yb, .int .i64 yc, .bool yd] 27)) (w7.alloc (.cells #[.int .i64 0, .int .i64 0, .int .i64 0, .bool is] 27)) by (focus ((repeat (first | (with_reducible assumption) | (with_reducible exact Kp.refl _) | (with_reducible apply Kp.drew) | (with_reducible apply Kp.drewN) | (with_reducible apply Kp.alloc) | ((with_reducible apply Kp.callK); (with_reducible assumption)))); done)))
      obtain ⟨f0, f1, f2, f3⟩ := (BX.new w6 0 0 0 true 27).kp (show Kp _ (w7.alloc (.cells #[.int .i64 0, .int .i64 0, .int .i64 0, .bool is] 27)) by (focus ((repeat (first | (with_reducible assumption) | (with_reducible exact Kp.refl _) | (with_reducible apply Kp.drew) | (with_reducible apply Kp.drewN) | (with_reducible apply Kp.alloc) | ((with_reducible apply Kp.callK); (with_reducible assumption)))); done)))
      simp only at b0 b1 b2 b3 c0 c1 c2 c3 d0 d1 d2 d3 f0 f1 f2 f3
      go_wp2_with fail
      refine (eqPairs_to n n true _ _ _ (HR6.out.kp (by (focus ((repeat (first | (with_reducible assumption) | (with_reducible exact Kp.refl _) | (with_reducible apply Kp.drew) | (with_reducible apply Kp.drewN) | (with_reducible apply Kp.alloc) | ((with_reducible apply Kp.callK); (with_reducible assumption)))); done)))) (HR7.out.kp (by (focus ((repeat (first | (with_reducible assumption) | (with_reducible exact Kp.refl _) | (with_reducible apply Kp.drew) | (with_reducible apply Kp.drewN) | (with_reducible apply Kp.alloc) | ((with_reducible apply Kp.callK); (with_reducible assumption)))); done)))) (by simp)).mono ?_
      rintro e w8 ⟨rfl, hb8⟩
      have kk8 := Kp.of hb8
      clear hb8
      go_wp2_with fail
      refine (H8.out _ _ (HR1.out.kp (by (focus ((repeat (first | (with_reducible assumption) | (with_reducible exact Kp.refl _) | (with_reducible apply Kp.drew) | (with_reducible apply Kp.drewN) | (with_reducible apply Kp.alloc) | ((with_reducible apply Kp.callK); (with_reducible assumption)))); done))))).mono ?_
      rintro e w9 ⟨rfl, hb9⟩
      have kk9 := Kp.of hb9
      clear hb9
      go_wp2
      go_ret
      exact ⟨rfl, Kp.bel (by (focus ((repeat (first | (with_reducible assumption) | (with_reducible exact Kp.refl _) | (with_reducible apply Kp.drew) | (with_reducible apply Kp.drewN) | (with_reducible apply Kp.alloc) | ((with_reducible apply Kp.callK); (with_reducible assumption)))); done)))⟩
    · have to : (other == key) = false := by simp [ho]
      have hXY := e5 ho
      injection hXY with q1 q2 q3 q4
      subst q1 q2 q3 q4
      clear ho e5
      go_enter Try.func4, Try.ntmps4
      go_wp2_with fail
      refine (H1.out _ _ (HR.out.kp (by (focus ((repeat (first | (with_reducible assumption) | (with_reducible exact Kp.refl _) | (with_reducible apply Kp.drew) | (with_reducible apply Kp.drewN) | (with_reducible apply Kp.alloc) | ((with_reducible apply Kp.callK); (with_reducible assumption)))); done))))).mono ?_
      rintro e w1 ⟨v1, rfl, hr1, hb1⟩
      have kk1 := Kp.of hb1
      have HR1 := hide hr1.rd
      clear hr1 hb1
      simp only [An.v]
      go_wp2_with fail
      refine (plainLives_any _).mono ?_
      rintro e w2 ⟨rfl, hb2⟩
      have kk2 := Kp.of hb2
      clear hb2
      obtain ⟨a0, _, _, _⟩ := (BX.new w1 0 0 0 is 27).kp kk2
      simp only at a0
      go_wp2_with fail
      refine (H3.out _ _ (HR1.out.kp (by (focus ((repeat (first | (with_reducible assumption) | (with_reducible exact Kp.refl _) | (with_reducible apply Kp.drew) | (with_reducible apply Kp.drewN) | (with_reducible apply Kp.alloc) | ((with_reducible apply Kp.callK); (with_reducible assumption)))); done))))).mono ?_
      rintro e w3 ⟨v3, rfl, hr3, hb3⟩
      have kk3 := Kp.of hb3
      have HR3 := hide hr3.rd
      clear hr3 hb3
      simp only [An.v]
      go_wp2_with fail
      refine (H4.out _ _ (HR1.out.kp (by (focus ((repeat (first | (with_reducible assumption) | (with_reducible exact Kp.refl _) | (with_reducible apply Kp.drew) | (with_reducible apply Kp.drewN) | (with_reducible apply Kp.alloc) | ((with_reducible apply Kp.callK); (with_reducible assumption)))); done))))).mono ?_
      rintro e w4 ⟨v4, rfl, hr4, hb4⟩
      have kk4 := Kp.of hb4
      have HR4 := hide hr4.rd
      clear hr4 hb4
      simp only [An.v]
      go_wp2_with fail
      refine (H5.out _ _ (HR.out.kp (by (focus ((repeat (first | (with_reducible assumption) | (with_reducible exact Kp.refl _) | (with_reducible apply Kp.drew) | (with_reducible apply Kp.drewN) | (with_reducible apply Kp.alloc) | ((with_reducible apply Kp.callK); (with_reducible assumption)))); done))))).mono ?_
      rintro e w5 ⟨v5, rfl, hr5, hb5⟩
      have kk5 := Kp.of hb5
      have HR5 := hide hr5.rd
      clear hr5 hb5
      simp only [An.v]
      go_wp2_with fail
      refine (H6.out _ _ (HR1.out.kp (by (focus ((repeat (first | (with_reducible assumption) | (with_reducible exact Kp.refl _) | (with_reducible apply Kp.drew) | (with_reducible apply Kp.drewN) | (with_reducible apply Kp.alloc) | ((with_reducible apply Kp.callK); (with_reducible assumption)))); done))))).mono ?_
      rintro e w6 ⟨v6, rfl, hr6, hb6⟩
      have kk6 := Kp.of hb6
      have HR6 := hide hr6.rd
      clear hr6 hb6
      simp only [An.v]
      go_wp2_with fail
      refine (H7.out _ _ (HR.out.kp (by (focus ((repeat (first | (with_reducible assumption) | (with_reducible exact Kp.refl _) | (with_reducible apply Kp.drew) | (with_reducible apply Kp.drewN) | (with_reducible apply Kp.alloc) | ((with_reducible apply Kp.callK); (with_reducible assumption)))); done))))).mono ?_
      rintro e w7 ⟨v7, rfl, hr7, hb7⟩
      have kk7 := Kp.of hb7
      have HR7 := hide hr7.rd
      clear hr7 hb7
      simp only [An.v]
      clear a0
      have KF : Kp w7 (w7.alloc (.cells #[.int .i64 0, .int .i64 0, .int .i64 0, .bool is] 27)) := (Kp.refl w7).alloc
      obtain ⟨b0, b1, b2, b3⟩ := (BX.new w3 0 0 value true 27).kp (show Kp _ (w7.alloc (.cells #[.int .i64 0, .int .i64 0, .int .i64 0, .bool is] 27)) by (focus ((repeat (first | (with_reducible assumption) | (with_reducible exact Kp.refl _) | (with_reducible apply Kp.drew) | (with_reducible apply Kp.drewN) | (with_reducible apply Kp.alloc) | ((with_reducible apply Kp.callK); (with_reducible assumption)))); done)))
      obtain ⟨c0, c1, c2, c3⟩ := (BX.new w4 xa xb xc xd 27).kp (show Kp _ (w7.alloc (.cells #[.int .i64 0, .int .i64 0, .int .i64 0, .bool is] 27)) by (focus ((repeat (first | (with_reducible assumption) | (with_reducible exact Kp.refl _) | (with_reducible apply Kp.drew) | (with_reducible apply Kp.drewN) | (with_reducible apply Kp.alloc) | ((with_reducible apply Kp.callK); (with_reducible assumption)))); done)))
      obtain ⟨d0, d1, d2, d3⟩ := (BX.new w5 _ _ _ _ 27).kp (show Kp (w5.alloc (.cells #[.int .i64 xa, .int .i64 xb, .int .i64 xc, .bool xd] 27)) (w7.alloc (.cells #[.int .i64 0, .int .i64 0, .int .i64 0, .bool is] 27)) by (focus ((repeat (first | (with_reducible assumption) | (with_reducible exact Kp.refl _) | (with_reducible apply Kp.drew) | (with_reducible apply Kp.drewN) | (with_reducible apply Kp.alloc) | ((with_reducible apply Kp.callK); (with_reducible assumption)))); done)))
      obtain ⟨f0, f1, f2, f3⟩ := (BX.new w6 0 0 0 true 27).kp (show Kp _ (w7.alloc (.cells #[.int .i64 0, .int .i64 0, .int .i64 0, .bool is] 27)) by (focus ((repeat (first | (with_reducible assumption) | (with_reducible exact Kp.refl _) | (with_reducible apply Kp.drew) | (with_reducible apply Kp.drewN) | (with_reducible apply Kp.alloc) | ((with_reducible apply Kp.callK); (with_reducible assumption)))); done)))
      simp only at b0 b1 b2 b3 c0 c1 c2 c3 d0 d1 d2 d3 f0 f1 f2 f3
      go_wp2_with fail
      refine (eqPairs_to n n true _ _ _ (HR6.out.kp (by (focus ((repeat (first | (with_reducible assumption) | (with_reducible exact Kp.refl _) | (with_reducible apply Kp.drew) | (with_reducible apply Kp.drewN) | (with_reducible apply Kp.alloc) | ((with_reducible apply Kp.callK); (with_reducible assumption)))); done)))) (HR7.out.kp (by (focus ((repeat (first | (with_reducible assumption) | (with_reducible exact Kp.refl _) | (with_reducible apply Kp.drew) | (with_reducible apply Kp.drewN) | (with_reducible apply Kp.alloc) | ((with_reducible apply Kp.callK); (with_reducible assumption)))); done)))) (by simp)).mono ?_
      rintro e w8 ⟨rfl, hb8⟩
      have kk8 := Kp.of hb8
      clear hb8
      go_wp2_with fail
      refine (H8.out _ _ (HR1.out.kp (by (focus ((repeat (first | (with_reducible assumption) | (with_reducible exact Kp.refl _) | (with_reducible apply Kp.drew) | (with_reducible apply Kp.drewN) | (with_reducible apply Kp.alloc) | ((with_reducible apply Kp.callK); (with_reducible assumption)))); done))))).mono ?_
      rintro e w9 ⟨rfl, hb9⟩
      have kk9 := Kp.of hb9
      clear hb9
      go_wp2
      go_ret
      exact ⟨rfl, Kp.bel (by (focus ((repeat (first | (with_reducible assumption) | (with_reducible exact Kp.refl _) | (with_reducible apply Kp.drew) | (with_reducible apply Kp.drewN) | (with_reducible apply Kp.alloc) | ((with_reducible apply Kp.callK); (with_reducible assumption)))); done)))⟩
  · obtain ⟨R, hR⟩ : ∃ R, R = doA l 1 key value := ⟨_, rfl⟩
    have H1 := hide (fun W v h => do_to l 1 key value _ hR.symm v W h)
    rw [← hR] at herr
    obtain ⟨rl, ra, rb, rc, rd⟩ := R
    simp only at herr
    have hne : (ra != 0) = true := by simp [herr]
    clear herr hR
    go_enter Try.func4, Try.ntmps4
    go_wp2_with fail
    refine (H1.out _ _ (HR.out.kp (by (focus ((repeat (first | (with_reducible assumption) | (with_reducible exact Kp.refl _) | (with_reducible apply Kp.drew) | (with_reducible apply Kp.drewN) | (with_reducible apply Kp.alloc) | ((with_reducible apply Kp.callK); (with_reducible assumption)))); done))))).mono ?_
    rintro e w1 ⟨v1, rfl, hr1, hb1⟩
    have kk1 := Kp.of hb1
    have HR1 := hide hr1.rd
    clear hr1 hb1
    simp only [An.v]
    go_wp2_with fail
    refine (plainLives_any _).mono ?_
    rintro e w2 ⟨rfl, hb2⟩
    have kk2 := Kp.of hb2
    clear hb2
    obtain ⟨a0, _, _, _⟩ := (BX.new w1 ra rb rc rd 27).kp kk2
    simp only at a0
    go_wp2_with fail
    refine (plainLives_any _).mono ?_
    rintro e w3 ⟨rfl, hb3⟩
    have kk3 := Kp.of hb3
    clear hb3
    go_wp2
    go_ret
    exact ⟨rfl, Kp.bel (by (focus ((repeat (first | (with_reducible assumption) | (with_reducible exact Kp.refl _) | (with_reducible apply Kp.drew) | (with_reducible apply Kp.drewN) | (with_reducible apply Kp.alloc) | ((with_reducible apply Kp.callK); (with_reducible assumption)))); done)))⟩
end Go.Proofs.Ytkfgpoeodpndlaa
