/-
  hedgkeep.PlainCuts: the walk: it answers true. Conditions: the list reads as l (RD).
-/
import Derived.Test.YtkfgpoeodpndlaaPlainPuts
namespace Go.Proofs.Ytkfgpoeodpndlaa
open Go.ChangeShapes Go.WideShapes Go.ChangeAt Go.RowKit
set_option linter.unusedVariables false
set_option linter.unusedSimpArgs false

/-- What a cut that goes through leaves. -/
theorem cut_ok (l : List IP) (key : Int) (h : (doA l 3 key 0).2.err = 0) : mapRight l = 0 ∧ (0 ≤ key ∧ key ≤ 1000000) ∧
    ∃ T M D, l = T ++ M ++ D ∧ TD T D key ∧ (M = [] ∨ ∃ v, M = [(key, v)]) ∧ doA l 3 key 0 = (T ++ D, match M with | [] => ⟨0, 0, 0, false⟩ | p :: _ => ⟨0, 0, p.2, true⟩) ∧ mapRight (T ++ D) = 0 ∧ (∀ u, (T ++ D).length ≠ 200 → mapRight (T ++ [(key, u)] ++ D) = 0) := by
  by_cases h0 : mapRight l = 0
  · by_cases hk : 0 ≤ key ∧ key ≤ 1000000
    · refine ⟨h0, hk, ?_⟩
      obtain ⟨T, M, D, hl, htd, hT, hD, hM⟩ := td_of l (rise_of h0) key
      obtain ⟨hlen, _, hin⟩ := (mapRight_iff l).1 h0
      have hin2 : ∀ x ∈ T ++ D, 0 ≤ x.1 ∧ x.1 ≤ 1000000 := fun x hx => hin x (by rw [hl]; simp at hx ⊢; rcases hx with h | h <;> simp [h])
      have hlen2 : (T ++ D).length ≤ 200 := by rw [hl] at hlen; simp at hlen ⊢; omega
      refine ⟨T, M, D, hl, htd, hM, ?_, (mapRight_iff _).2 ⟨hlen2, rise_no htd hT hD, hin2⟩, fun u hu => (mapRight_iff _).2 ⟨?_, rise_mid (M := []) htd hT hD u, fun x hx => ?_⟩⟩
      · rw [doA_cut key 0 h0 hk, hl]
        rcases hM with rfl | ⟨v, rfl⟩
        · rw [List.append_nil, htd.cut_no]
        · rw [htd.cut_one]
      · simp at hu hlen2 ⊢; omega
      · simp only [List.mem_append, List.mem_singleton] at hx
        rcases hx with (hx | rfl) | hx
        · exact hin2 x (by simp [hx])
        · exact hk
        · exact hin2 x (by simp [hx])
    · rw [doA_arg key 0 3 h0 (by omega) hk] at h; simp at h
  · rw [doA_bad key 0 3 h0] at h; exact absurd h h0

set_option maxRecDepth 100000 in
set_option maxHeartbeats 16000000 in
theorem plainCuts_walk (l : List IP) (key other : Int) (v : Value) (w : World) (hr : RD w ePair v l) (h1 : -9223372036854775808 ≤ key ∧ key ≤ 9223372036854775807) (h3 : -9223372036854775808 ≤ other ∧ other ≤ 9223372036854775807) :
    Calls Try.prog 5 #[v, .int .i64 key, .int .i64 other] w (Ret (.bool true) w) := by
  obtain ⟨Al, cl, rfl, hcl, hml⟩ := hr.shape
  have HR := hide hr
  clear hr h1 h3
  by_cases herr : (doA l 3 key 0).2.err = 0
  · obtain ⟨h0, hk, T, M, D, hl, htd, hM, hcut, hmr, hright⟩ := cut_ok l key herr
    obtain ⟨m, hme⟩ : ∃ m, m = T ++ D := ⟨_, rfl⟩
    obtain ⟨av, ai, hA⟩ : ∃ av ai, (match M with | [] => (⟨0, 0, 0, false⟩ : An) | p :: _ => ⟨0, 0, p.2, true⟩) = ⟨0, 0, av, ai⟩ := by
      rcases hM with rfl | ⟨u, rfl⟩ <;> exact ⟨_, _, rfl⟩
    have e1 : doA l 3 key 0 = (m, ⟨0, 0, av, ai⟩) := by rw [hcut, hA, hme]
    have e3 : doA m 2 key 0 = (m, ⟨0, 0, 0, false⟩) := by rw [doA_get key 0 (by rw [hme]; exact hmr) hk, hme, htd.get_no]
    have e5 : other ≠ key → (doA m 2 other 0).2 = (doA l 2 other 0).2 := fun ho => by
      refine get_same m l other (by rw [hme]; exact hmr) h0 ?_
      rw [hme, hl]
      have h9 := get_other T D [] M key other (by rw [List.append_nil]; exact rise_of hmr) (by rw [← hl]; exact rise_of h0) (TD.no key) (by
        rcases hM with rfl | ⟨u, rfl⟩
        · simp
        · exact TD.one key u) ho
      rwa [List.append_nil] at h9
    obtain ⟨m2, X, hX⟩ : ∃ m2 X, doA m 2 other 0 = (m2, X) := ⟨_, _, rfl⟩
    obtain ⟨l2, Y, hY⟩ : ∃ l2 Y, doA l 2 other 0 = (l2, Y) := ⟨_, _, rfl⟩
    rw [hX, hY] at e5
    have e67 : ∃ n ee, doA m 1 key av = (n, ⟨ee, 0, 0, false⟩) ∧ (doA n 3 key 0).1 = m ∧ (ee = 0 → ai = true → n = l) := by
      by_cases h200 : m.length = 200
      · refine ⟨m, 2, ?_, ?_, fun h => by omega⟩
        · rw [doA_put key av (by rw [hme]; exact hmr) hk, hme, htd.put_no, if_pos (by rw [← hme]; exact h200)]
        · rw [doA_cut key 0 (by rw [hme]; exact hmr) hk, hme, htd.cut_no]
      · refine ⟨T ++ [(key, av)] ++ D, 0, ?_, ?_, fun _ hai => ?_⟩
        · rw [doA_put key av (by rw [hme]; exact hmr) hk, hme, htd.put_no, if_neg (by rw [← hme]; exact h200)]
        · rw [doA_cut key 0 (hright av (by rw [← hme]; exact h200)) hk, htd.cut_one]; exact hme.symm
        · rcases hM with rfl | ⟨u, rfl⟩
          · simp only [An.mk.injEq] at hA; rw [← hA.2.2.2] at hai; cases hai
          · simp only [An.mk.injEq] at hA; rw [hl, ← hA.2.2.1]
    obtain ⟨n, ee, e6, e7, e8⟩ := e67
    obtain ⟨m3, Z, hZ⟩ : ∃ m3 Z, doA n 3 key 0 = (m3, Z) := ⟨_, _, rfl⟩
    rw [hZ] at e7
    simp only at e7
    subst e7
    have hlm : m3.length ≤ l.length := by rw [hme, hl]; simp <;> omega
    have H1 := hide (fun W v h => do_to l 3 key 0 _ e1 v W h)
    have H3 := hide (fun W v h => do_to m3 2 key 0 _ e3 v W h)
    have H4 := hide (fun W v h => do_to m3 2 other 0 _ hX v W h)
    have H5 := hide (fun W v h => do_to l 2 other 0 _ hY v W h)
    have H6 := hide (fun W v h => do_to m3 1 key av _ e6 v W h)
    have H7 := hide (fun W v h => do_to n 3 key 0 _ hZ v W h)
    obtain ⟨xa, xb, xc, xd⟩ := X
    obtain ⟨ya, yb, yc, yd⟩ := Y
    obtain ⟨xe, xf, xg, xh⟩ := Z
    simp only at e5
    have tl : decide ((l.length : Int) < (m3.length : Int)) = false := by simp; omega
    have tl' : decide (l.length < m3.length) = false := by simp; omega
    have HE8 := hide e8
    clear herr h0 hk hl htd hM hcut hmr hright hme e1 e3 e6 hX hY hA hZ hlm e8
    by_cases ho : other = key
    · have to : (other != key) = false := by simp [ho]
      clear ho e5
      go_enter Try.func5, Try.ntmps5
      go_wp2_with fail
      refine (H1.out _ _ (HR.out.kp (by (focus ((repeat (first | (with_reducible assumption) | (with_reducible exact Kp.refl _) | (with_reducible apply Kp.drew) | (with_reducible apply Kp.drewN) | (with_reducible apply Kp.alloc) | ((with_reducible apply Kp.callK); (with_reducible assumption)))); done))))).mono ?_
      rintro e w1 ⟨v1, rfl, hr1, hb1⟩
      have kk1 := Kp.of hb1
      have HR1 := hide hr1.rd
      clear hr1 hb1
      simp only [An.v]
      obtain ⟨Am, cm, rfl, hcm, hmm⟩ := HR1.out.shape
      go_wp2_with fail
      refine (plainLives_any _).mono ?_
      rintro e w2 ⟨rfl, hb2⟩
      have kk2 := Kp.of hb2
      clear hb2
      obtain ⟨a0, _, _, _⟩ := (BX.new w1 0 0 av ai 27).kp kk2
      simp only at a0
      go_wp2_with fail
      refine (H3.out _ _ (HR1.out.kp (by (focus ((repeat (first | (with_reducible assumption) | (with_reducible exact Kp.refl _) | (with_reducible apply Kp.drew) | (with_reducible apply Kp.drewN) | (with_reducible apply Kp.alloc) | ((with_reducible apply Kp.callK); (with_reducible assumption)))); done))))).mono ?_
      rintro e w3 ⟨v3, rfl, hr3, hb3⟩
      have kk3 := Kp.of hb3
      have HR3 := hide hr3.rd
      clear hr3 hb3
      simp only [An.v]
      go_wp2_with fail
      refine (H4.out _ _ (HR1.out.kp (by (focus ((repeat (first | (with_reducible assumption) | (with_reducible exact Kp.refl _) | (with_reducible apply Kp.drew) | (with_reducible apply Kp.drewN) | (with_reducible apply Kp.alloc) | ((with_reducible apply Kp.callK); (with_reducible assumption)))); done))))).mono ?_
      rintro e w4 ⟨v4, rfl, hr4, hb4⟩
      have kk4 := Kp.of hb4
      have HR4 := hide hr4.rd
      clear hr4 hb4
      simp only [An.v]
      go_wp2_with fail
      refine (H5.out _ _ (HR.out.kp (by (focus ((repeat (first | (with_reducible assumption) | (with_reducible exact Kp.refl _) | (with_reducible apply Kp.drew) | (with_reducible apply Kp.drewN) | (with_reducible apply Kp.alloc) | ((with_reducible apply Kp.callK); (with_reducible assumption)))); done))))).mono ?_
      rintro e w5 ⟨v5, rfl, hr5, hb5⟩
      have kk5 := Kp.of hb5
      have HR5 := hide hr5.rd
      clear hr5 hb5
      simp only [An.v]
      clear a0
      obtain ⟨a0, a1, a2, a3⟩ := (BX.new w1 0 0 av ai 27).kp (show Kp _ (w5.alloc (.cells #[.int .i64 ya, .int .i64 yb, .int .i64 yc, .bool yd] 27)) by (focus ((repeat (first | (with_reducible assumption) | (with_reducible exact Kp.refl _) | (with_reducible apply Kp.drew) | (with_reducible apply Kp.drewN) | (with_reducible apply Kp.alloc) | ((with_reducible apply Kp.callK); (with_reducible assumption)))); done)))
      obtain ⟨b0, b1, b2, b3⟩ := (BX.new w3 0 0 0 false 27).kp (show Kp _ (w5.alloc (.cells #[.int .i64 ya, .int .i64 yb, .int .i64 yc, .bool yd] 27)) by (focus ((repeat (first | (with_reducible assumption) | (with_reducible exact Kp.refl _) | (with_reducible apply Kp.drew) | (with_reducible apply Kp.drewN) | (with_reducible apply Kp.alloc) | ((with_reducible apply Kp.callK); (with_reducible assumption)))); done)))
      obtain ⟨c0, c1, c2, c3⟩ := (BX.new w4 xa xb xc xd 27).kp (show Kp _ (w5.alloc (.cells #[.int .i64 ya, .int .i64 yb, .int .i64 yc, .bool yd] 27)) by (focus ((repeat (first | (with_reducible assumption) | (with_reducible exact Kp.refl _) | (with_reducible apply Kp.drew) | (with_reducible apply Kp.drewN) | (with_reducible apply Kp.alloc) | ((with_reducible apply Kp.callK); (with_reducible assumption)))); done)))
      simp only at a0 a1 a2 a3 b0 b1 b2 b3 c0 c1 c2 c3
      go_wp2_with fail
      refine (H6.out _ _ (HR1.out.kp (by (focus ((repeat (first | (with_reducible assumption) | (with_reducible exact Kp.refl _) | (with_reducible apply Kp.drew) | (with_reducible apply Kp.drewN) | (with_reducible apply Kp.alloc) | ((with_reducible apply Kp.callK); (with_reducible assumption)))); done))))).mono ?_
      rintro e w6 ⟨v6, rfl, hr6, hb6⟩
      have kk6 := Kp.of hb6
      have HR6 := hide hr6.rd
      clear hr6 hb6
      simp only [An.v]
      clear a0 a1 a2 a3 b0 b1 b2 b3 c0 c1 c2 c3
      go_wp2_with fail
      refine (H7.out _ _ (HR6.out.kp (by (focus ((repeat (first | (with_reducible assumption) | (with_reducible exact Kp.refl _) | (with_reducible apply Kp.drew) | (with_reducible apply Kp.drewN) | (with_reducible apply Kp.alloc) | ((with_reducible apply Kp.callK); (with_reducible assumption)))); done))))).mono ?_
      rintro e w7 ⟨v7, rfl, hr7, hb7⟩
      have kk7 := Kp.of hb7
      have HR7 := hide hr7.rd
      clear hr7 hb7
      simp only [An.v]
      obtain ⟨f0, f1, f2, f3⟩ := (BX.new w6 ee 0 0 false 27).kp (show Kp _ (w7.alloc (.cells #[.int .i64 xe, .int .i64 xf, .int .i64 xg, .bool xh] 27)) by (focus ((repeat (first | (with_reducible assumption) | (with_reducible exact Kp.refl _) | (with_reducible apply Kp.drew) | (with_reducible apply Kp.drewN) | (with_reducible apply Kp.alloc) | ((with_reducible apply Kp.callK); (with_reducible assumption)))); done)))
      obtain ⟨a0, a1, a2, a3⟩ := (BX.new w1 0 0 av ai 27).kp (show Kp _ (w7.alloc (.cells #[.int .i64 xe, .int .i64 xf, .int .i64 xg, .bool xh] 27)) by (focus ((repeat (first | (with_reducible assumption) | (with_reducible exact Kp.refl _) | (with_reducible apply Kp.drew) | (with_reducible apply Kp.drewN) | (with_reducible apply Kp.alloc) | ((with_reducible apply Kp.callK); (with_reducible assumption)))); done)))
      simp only at a0 a1 a2 a3 f0 f1 f2 f3
      have KF : Kp w7 (w7.alloc (.cells #[.int .i64 xe, .int .i64 xf, .int .i64 xg, .bool xh] 27)) := (Kp.refl w7).alloc
      by_cases h0e : ee = 0
      · have te : (ee != 0) = false := by simp [h0e]
        go_wp2_with fail
        refine (eqPairs_to m3 m3 true _ _ _ (HR7.out.kp (by (focus ((repeat (first | (with_reducible assumption) | (with_reducible exact Kp.refl _) | (with_reducible apply Kp.drew) | (with_reducible apply Kp.drewN) | (with_reducible apply Kp.alloc) | ((with_reducible apply Kp.callK); (with_reducible assumption)))); done)))) (HR1.out.kp (by (focus ((repeat (first | (with_reducible assumption) | (with_reducible exact Kp.refl _) | (with_reducible apply Kp.drew) | (with_reducible apply Kp.drewN) | (with_reducible apply Kp.alloc) | ((with_reducible apply Kp.callK); (with_reducible assumption)))); done)))) (by simp)).mono ?_
        rintro e w8 ⟨rfl, hb8⟩
        have kk8 := Kp.of hb8
        have a3' := kk8.cell a3
        clear hb8
        cases ai with
        | true =>
          have hnl : n = l := HE8.out h0e rfl
          have HNL := hide hnl
          clear hnl h0e
          go_wp2_with fail
          refine (eqPairs_to n l true _ _ _ (HR6.out.kp (by (focus ((repeat (first | (with_reducible assumption) | (with_reducible exact Kp.refl _) | (with_reducible apply Kp.drew) | (with_reducible apply Kp.drewN) | (with_reducible apply Kp.alloc) | ((with_reducible apply Kp.callK); (with_reducible assumption)))); done)))) (HR.out.kp (by (focus ((repeat (first | (with_reducible assumption) | (with_reducible exact Kp.refl _) | (with_reducible apply Kp.drew) | (with_reducible apply Kp.drewN) | (with_reducible apply Kp.alloc) | ((with_reducible apply Kp.callK); (with_reducible assumption)))); done)))) (by simp [HNL.out])).mono ?_
          rintro e w9 ⟨rfl, hb9⟩
          have kk9 := Kp.of hb9
          clear hb9
          go_wp2
          go_ret
          exact ⟨rfl, Kp.bel (by (focus ((repeat (first | (with_reducible assumption) | (with_reducible exact Kp.refl _) | (with_reducible apply Kp.drew) | (with_reducible apply Kp.drewN) | (with_reducible apply Kp.alloc) | ((with_reducible apply Kp.callK); (with_reducible assumption)))); done)))⟩
        | false =>
          clear h0e
          go_wp2
          go_ret
          exact ⟨rfl, Kp.bel (by (focus ((repeat (first | (with_reducible assumption) | (with_reducible exact Kp.refl _) | (with_reducible apply Kp.drew) | (with_reducible apply Kp.drewN) | (with_reducible apply Kp.alloc) | ((with_reducible apply Kp.callK); (with_reducible assumption)))); done)))⟩
      · have te : (ee != 0) = true := by simp [h0e]
        clear h0e
        go_wp2
        go_ret
        exact ⟨rfl, Kp.bel (by (focus ((repeat (first | (with_reducible assumption) | (with_reducible exact Kp.refl _) | (with_reducible apply Kp.drew) | (with_reducible apply Kp.drewN) | (with_reducible apply Kp.alloc) | ((with_reducible apply Kp.callK); (with_reducible assumption)))); done)))⟩
    · have to : (other != key) = true := by simp [ho]
      have hXY := e5 ho
      injection hXY with q1 q2 q3 q4
      subst q1 q2 q3 q4
      clear ho e5
      go_enter Try.func5, Try.ntmps5
      go_wp2_with fail
      refine (H1.out _ _ (HR.out.kp (by (focus ((repeat (first | (with_reducible assumption) | (with_reducible exact Kp.refl _) | (with_reducible apply Kp.drew) | (with_reducible apply Kp.drewN) | (with_reducible apply Kp.alloc) | ((with_reducible apply Kp.callK); (with_reducible assumption)))); done))))).mono ?_
      rintro e w1 ⟨v1, rfl, hr1, hb1⟩
      have kk1 := Kp.of hb1
      have HR1 := hide hr1.rd
      clear hr1 hb1
      simp only [An.v]
      obtain ⟨Am, cm, rfl, hcm, hmm⟩ := HR1.out.shape
      go_wp2_with fail
      refine (plainLives_any _).mono ?_
      rintro e w2 ⟨rfl, hb2⟩
      have kk2 := Kp.of hb2
      clear hb2
      obtain ⟨a0, _, _, _⟩ := (BX.new w1 0 0 av ai 27).kp kk2
      simp only at a0
      go_wp2_with fail
      refine (H3.out _ _ (HR1.out.kp (by (focus ((repeat (first | (with_reducible assumption) | (with_reducible exact Kp.refl _) | (with_reducible apply Kp.drew) | (with_reducible apply Kp.drewN) | (with_reducible apply Kp.alloc) | ((with_reducible apply Kp.callK); (with_reducible assumption)))); done))))).mono ?_
      rintro e w3 ⟨v3, rfl, hr3, hb3⟩
      have kk3 := Kp.of hb3
      have HR3 := hide hr3.rd
      clear hr3 hb3
      simp only [An.v]
      go_wp2_with fail
      refine (H4.out _ _ (HR1.out.kp (by (focus ((repeat (first | (with_reducible assumption) | (with_reducible exact Kp.refl _) | (with_reducible apply Kp.drew) | (with_reducible apply Kp.drewN) | (with_reducible apply Kp.alloc) | ((with_reducible apply Kp.callK); (with_reducible assumption)))); done))))).mono ?_
      rintro e w4 ⟨v4, rfl, hr4, hb4⟩
      have kk4 := Kp.of hb4
      have HR4 := hide hr4.rd
      clear hr4 hb4
      simp only [An.v]
      go_wp2_with fail
      refine (H5.out _ _ (HR.out.kp (by (focus ((repeat (first | (with_reducible assumption) | (with_reducible exact Kp.refl _) | (with_reducible apply Kp.drew) | (with_reducible apply Kp.drewN) | (with_reducible apply Kp.alloc) | ((with_reducible apply Kp.callK); (with_reducible assumption)))); done))))).mono ?_
      rintro e w5 ⟨v5, rfl, hr5, hb5⟩
      have kk5 := Kp.of hb5
      have HR5 := hide hr5.rd
      clear hr5 hb5
      simp only [An.v]
      clear a0
      obtain ⟨a0, a1, a2, a3⟩ := (BX.new w1 0 0 av ai 27).kp (show Kp _ (w5.alloc (.cells #[.int .i64 xa, .int .i64 xb, .int .i64 xc, .bool xd] 27)) by (focus ((repeat (first | (with_reducible assumption) | (with_reducible exact Kp.refl _) | (with_reducible apply Kp.drew) | (with_reducible apply Kp.drewN) | (with_reducible apply Kp.alloc) | ((with_reducible apply Kp.callK); (with_reducible assumption)))); done)))
      obtain ⟨b0, b1, b2, b3⟩ := (BX.new w3 0 0 0 false 27).kp (show Kp _ (w5.alloc (.cells #[.int .i64 xa, .int .i64 xb, .int .i64 xc, .bool xd] 27)) by (focus ((repeat (first | (with_reducible assumption) | (with_reducible exact Kp.refl _) | (with_reducible apply Kp.drew) | (with_reducible apply Kp.drewN) | (with_reducible apply Kp.alloc) | ((with_reducible apply Kp.callK); (with_reducible assumption)))); done)))
      obtain ⟨c0, c1, c2, c3⟩ := (BX.new w4 xa xb xc xd 27).kp (show Kp _ (w5.alloc (.cells #[.int .i64 xa, .int .i64 xb, .int .i64 xc, .bool xd] 27)) by (focus ((repeat (first | (with_reducible assumption) | (with_reducible exact Kp.refl _) | (with_reducible apply Kp.drew) | (with_reducible apply Kp.drewN) | (with_reducible apply Kp.alloc) | ((with_reducible apply Kp.callK); (with_reducible assumption)))); done)))
      simp only at a0 a1 a2 a3 b0 b1 b2 b3 c0 c1 c2 c3
      go_wp2_with fail
      refine (H6.out _ _ (HR1.out.kp (by (focus ((repeat (first | (with_reducible assumption) | (with_reducible exact Kp.refl _) | (with_reducible apply Kp.drew) | (with_reducible apply Kp.drewN) | (with_reducible apply Kp.alloc) | ((with_reducible apply Kp.callK); (with_reducible assumption)))); done))))).mono ?_
      rintro e w6 ⟨v6, rfl, hr6, hb6⟩
      have kk6 := Kp.of hb6
      have HR6 := hide hr6.rd
      clear hr6 hb6
      simp only [An.v]
      clear a0 a1 a2 a3 b0 b1 b2 b3 c0 c1 c2 c3
      go_wp2_with fail
      refine (H7.out _ _ (HR6.out.kp (by (focus ((repeat (first | (with_reducible assumption) | (with_reducible exact Kp.refl _) | (with_reducible apply Kp.drew) | (with_reducible apply Kp.drewN) | (with_reducible apply Kp.alloc) | ((with_reducible apply Kp.callK); (with_reducible assumption)))); done))))).mono ?_
      rintro e w7 ⟨v7, rfl, hr7, hb7⟩
      have kk7 := Kp.of hb7
      have HR7 := hide hr7.rd
      clear hr7 hb7
      simp only [An.v]
      obtain ⟨f0, f1, f2, f3⟩ := (BX.new w6 ee 0 0 false 27).kp (show Kp _ (w7.alloc (.cells #[.int .i64 xe, .int .i64 xf, .int .i64 xg, .bool xh] 27)) by (focus ((repeat (first | (with_reducible assumption) | (with_reducible exact Kp.refl _) | (with_reducible apply Kp.drew) | (with_reducible apply Kp.drewN) | (with_reducible apply Kp.alloc) | ((with_reducible apply Kp.callK); (with_reducible assumption)))); done)))
      obtain ⟨a0, a1, a2, a3⟩ := (BX.new w1 0 0 av ai 27).kp (show Kp _ (w7.alloc (.cells #[.int .i64 xe, .int .i64 xf, .int .i64 xg, .bool xh] 27)) by (focus ((repeat (first | (with_reducible assumption) | (with_reducible exact Kp.refl _) | (with_reducible apply Kp.drew) | (with_reducible apply Kp.drewN) | (with_reducible apply Kp.alloc) | ((with_reducible apply Kp.callK); (with_reducible assumption)))); done)))
      simp only at a0 a1 a2 a3 f0 f1 f2 f3
      have KF : Kp w7 (w7.alloc (.cells #[.int .i64 xe, .int .i64 xf, .int .i64 xg, .bool xh] 27)) := (Kp.refl w7).alloc
      by_cases h0e : ee = 0
      · have te : (ee != 0) = false := by simp [h0e]
        go_wp2_with fail
        refine (eqPairs_to m3 m3 true _ _ _ (HR7.out.kp (by (focus ((repeat (first | (with_reducible assumption) | (with_reducible exact Kp.refl _) | (with_reducible apply Kp.drew) | (with_reducible apply Kp.drewN) | (with_reducible apply Kp.alloc) | ((with_reducible apply Kp.callK); (with_reducible assumption)))); done)))) (HR1.out.kp (by (focus ((repeat (first | (with_reducible assumption) | (with_reducible exact Kp.refl _) | (with_reducible apply Kp.drew) | (with_reducible apply Kp.drewN) | (with_reducible apply Kp.alloc) | ((with_reducible apply Kp.callK); (with_reducible assumption)))); done)))) (by simp)).mono ?_
        rintro e w8 ⟨rfl, hb8⟩
        have kk8 := Kp.of hb8
        have a3' := kk8.cell a3
        clear hb8
        cases ai with
        | true =>
          have hnl : n = l := HE8.out h0e rfl
          have HNL := hide hnl
          clear hnl h0e
          go_wp2_with fail
          refine (eqPairs_to n l true _ _ _ (HR6.out.kp (by (focus ((repeat (first | (with_reducible assumption) | (with_reducible exact Kp.refl _) | (with_reducible apply Kp.drew) | (with_reducible apply Kp.drewN) | (with_reducible apply Kp.alloc) | ((with_reducible apply Kp.callK); (with_reducible assumption)))); done)))) (HR.out.kp (by (focus ((repeat (first | (with_reducible assumption) | (with_reducible exact Kp.refl _) | (with_reducible apply Kp.drew) | (with_reducible apply Kp.drewN) | (with_reducible apply Kp.alloc) | ((with_reducible apply Kp.callK); (with_reducible assumption)))); done)))) (by simp [HNL.out])).mono ?_
          rintro e w9 ⟨rfl, hb9⟩
          have kk9 := Kp.of hb9
          clear hb9
          go_wp2
          go_ret
          exact ⟨rfl, Kp.bel (by (focus ((repeat (first | (with_reducible assumption) | (with_reducible exact Kp.refl _) | (with_reducible apply Kp.drew) | (with_reducible apply Kp.drewN) | (with_reducible apply Kp.alloc) | ((with_reducible apply Kp.callK); (with_reducible assumption)))); done)))⟩
        | false =>
          clear h0e
          go_wp2
          go_ret
          exact ⟨rfl, Kp.bel (by (focus ((repeat (first | (with_reducible assumption) | (with_reducible exact Kp.refl _) | (with_reducible apply Kp.drew) | (with_reducible apply Kp.drewN) | (with_reducible apply Kp.alloc) | ((with_reducible apply Kp.callK); (with_reducible assumption)))); done)))⟩
      · have te : (ee != 0) = true := by simp [h0e]
        clear h0e
        go_wp2
        go_ret
        exact ⟨rfl, Kp.bel (by (focus ((repeat (first | (with_reducible assumption) | (with_reducible exact Kp.refl _) | (with_reducible apply Kp.drew) | (with_reducible apply Kp.drewN) | (with_reducible apply Kp.alloc) | ((with_reducible apply Kp.callK); (with_reducible assumption)))); done)))⟩
  · obtain ⟨R, hR⟩ : ∃ R, R = doA l 3 key 0 := ⟨_, rfl⟩
    have H1 := hide (fun W v h => do_to l 3 key 0 _ hR.symm v W h)
    rw [← hR] at herr
    obtain ⟨rl, ra, rb, rc, rd⟩ := R
    simp only at herr
    have hne : (ra != 0) = true := by simp [herr]
    clear herr hR
    go_enter Try.func5, Try.ntmps5
    go_wp2_with fail
    refine (H1.out _ _ (HR.out.kp (by (focus ((repeat (first | (with_reducible assumption) | (with_reducible exact Kp.refl _) | (with_reducible apply Kp.drew) | (with_reducible apply Kp.drewN) | (with_reducible apply Kp.alloc) | ((with_reducible apply Kp.callK); (with_reducible assumption)))); done))))).mono ?_
    rintro e w1 ⟨v1, rfl, hr1, hb1⟩
    have kk1 := Kp.of hb1
    have HR1 := hide hr1.rd
    clear hr1 hb1
    simp only [An.v]
    go_wp2_with fail
    refine (plainLives_any _).mono ?_
    rintro e w2 ⟨rfl, hb2⟩
    have kk2 := Kp.of hb2
    clear hb2
    obtain ⟨a0, _, _, _⟩ := (BX.new w1 ra rb rc rd 27).kp kk2
    simp only at a0
    go_wp2_with fail
    refine (plainLives_any _).mono ?_
    rintro e w3 ⟨rfl, hb3⟩
    have kk3 := Kp.of hb3
    clear hb3
    go_wp2
    go_ret
    exact ⟨rfl, Kp.bel (by (focus ((repeat (first | (with_reducible assumption) | (with_reducible exact Kp.refl _) | (with_reducible apply Kp.drew) | (with_reducible apply Kp.drewN) | (with_reducible apply Kp.alloc) | ((with_reducible apply Kp.callK); (with_reducible assumption)))); done)))⟩
end Go.Proofs.Ytkfgpoeodpndlaa
