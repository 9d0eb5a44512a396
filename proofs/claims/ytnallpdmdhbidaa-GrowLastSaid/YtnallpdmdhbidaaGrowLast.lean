/-
  hedgkeep.GrowLast: the walk: it answers true. Conditions: the list of keys reads as ints (RD).
-/
import Derived.Test.YtnallpdmdhbidaaGLast
import Derived.Test.YtnallpdmdhbidaaGrowHoare
import Derived.Test.YtnallpdmdhbidaaClone2
import Derived.Test.YtnallpdmdhbidaaSame
namespace Go.Proofs.Ytnallpdmdhbidaa
open Go.ChangeShapes Go.WideShapes Go.ChangeAt Go.RowKit
set_option linter.unusedVariables false
set_option linter.unusedSimpArgs false

theorem okL_two (a b : Int) : okL [a, b] = (a == 0 && b == 0) := by simp [okL]
def LsRel (K : List Int) (w : World) (ov iv : Value) (wr : World) : Prop := ∃ k : Nat, k ≤ K.length ∧ iv = .int .i64 k ∧ OW wr w.heap.size 32 eOp ov ((K.take k).map putO) ∧ Kp w wr
set_option maxRecDepth 100000 in
set_option maxHeartbeats 8000000 in
theorem growLast_walk (keys : List Int) (key : Int) (v : Value) (w : World) (hr : RD w eInt v keys) (hkey : -9223372036854775808 ≤ key ∧ key ≤ 9223372036854775807) : Calls Try.prog 3 #[v, .int .i64 key] w (Ret (.bool true) w) := by
  obtain ⟨A, c, rfl, hc, hm⟩ := hr.shape
  have HR := hide hr
  clear hr hkey
  by_cases hlen : keys.length > 100
  · have d1 : decide ((100 : Int) < (keys.length : Int)) = true := by simp; omega
    clear HR
    go_enter Try.func3, Try.ntmps3
    go_wp2_with fail
    with_reducible refine (growLives_any _).mono ?_
    rintro e w2 ⟨rfl, hb2⟩
    have kk2 := Kp.of hb2
    clear hb2
    go_wp2_with fail
    with_reducible refine (growLives_any _).mono ?_
    rintro e w3 ⟨rfl, hb3⟩
    have kk3 := Kp.of hb3
    clear hb3
    go_wp2
    go_ret
    exact ⟨rfl, (kk2.trans kk3).bel⟩
  · have d1 : decide ((100 : Int) < (keys.length : Int)) = false := by simp; omega
    have HOF := hide (fun W v h => growOf_any keys v W h)
    have HOG := hide (fun W v h => growOf_any (keys ++ [key]) v W h)
    have HCL := hide (fun W v h => cloneInts_any keys v W h (by omega))
    obtain ⟨G1, hG1⟩ : ∃ G, G = growOf keys := ⟨_, rfl⟩
    obtain ⟨G2, hG2⟩ : ∃ G, G = growOf (keys ++ [key]) := ⟨_, rfl⟩
    rw [← hG1] at HOF
    rw [← hG2] at HOG
    have HG1 := hide hG1
    have HG2 := hide hG2
    have HM1 : Hid ((keys.length + [key].length) * 8 ≤ 140737488355328) := hide (by simp; omega)
    have HM2 : Hid (keys.length + [key].length ≤ maxLen) := hide (by simp [maxLen]; omega)
    clear hG1 hG2
    go_enter Try.func3, Try.ntmps3
    go_wp2_with fail
    with_reducible refine (growLives_any _).mono ?_
    rintro e w1 ⟨rfl, hb1⟩
    have kk1 := Kp.of hb1
    clear hb1
    go_wp2_with fail
    with_reducible refine (HOF.out _ _ (HR.out.kp kk1)).mono ?_
    rintro e w2 ⟨v2, rfl, hr2, hb2⟩
    have kk2 := Kp.of hb2
    obtain ⟨A2, c2, rfl, _, _⟩ := hr2.shape
    have HR2 := hide hr2
    clear hr2 hb2
    go_wp2_with fail
    with_reducible refine (HCL.out _ _ (HR.out.kp (kk1.trans kk2))).mono ?_
    rintro e w3 ⟨v3, rfl, ho3, hb3⟩
    have kk3 := Kp.of hb3
    obtain ⟨A3, c3, rfl, _, _⟩ := ho3.rd.shape
    have hi3 := ho3.hi
    have HO3 := hide ho3
    have HZ3 := hide hb3.size
    clear hb3 ho3
    go_wp2_with ((at_builtin; (with_reducible refine list_app (B := w2.heap.size) (l := keys) (m := [key]) row_int (.slice A3 keys.length c3) ?_ (.tmp 30) (.tmp 32) ?_ ?_ ?_ ?_ HM1.out HM2.out ?_ ?_); (with_reducible rfl); (with_reducible rfl); rfl; (exact HO3.out.alloc _); (show RD _ _ (.slice (some ⟨_, 0, none⟩) 1 1) _; (focus ((repeat (first | (with_reducible assumption) | exact RD.new1 _ rfl | (refine RD.new1e _ ?_ rfl; simp; done) | (with_reducible apply RD.alloc) | (with_reducible apply RD.drew) | (with_reducible apply RD.drewN) | ((with_reducible apply RD.belowR); (with_reducible assumption)))); done))); (have := HZ3.out; simp; omega); intro v4 w4 ho4 hg4 hat4); obtain ⟨A4, N4, c4, rfl⟩ := ho4.rd.slice; have kk4 : Kp w2 w4 := Kp.app hg4 kk3.alloc hi3; have HR4 := hide ho4.rd; clear hg4 hat4 ho4)
    with_reducible refine (HOG.out _ _ HR4.out).mono ?_
    rintro e w5 ⟨v5, rfl, hr5, hb5⟩
    obtain ⟨A5, c5, rfl, _, _⟩ := hr5.shape
    have kk5 := Kp.of hb5
    clear hr5 hb5
    by_cases hok : G1.2 = 0 ∧ G2.2 = 0
    · have HOK : Hid (okL [G1.2, G2.2] = true) := hide (by rw [okL_two]; simp [hok.1, hok.2])
      have hrg1 : rightG keys = 0 := by
        have h := hok.1
        rw [HG1.out, growOf] at h
        by_cases h9 : rightG keys = 0
        · exact h9
        · rw [if_pos h9] at h; exact h
      have hrg2 : rightG (keys ++ [key]) = 0 := by
        have h := hok.2
        rw [HG2.out, growOf] at h
        by_cases h9 : rightG (keys ++ [key]) = 0
        · exact h9
        · rw [if_pos h9] at h; exact h
      have hl := last_law keys key (by omega) hrg1 hrg2
      obtain ⟨s, hs⟩ : ∃ s, s = (ofT keys).spotsBy Prod.fst 0 := ⟨_, rfl⟩
      have hg1 : G1.1 = s := by rw [HG1.out, growOf, if_neg (by simp [hrg1]), hs]
      rw [← hs] at hl
      rw [hg1] at HR2
      have HRU := hide (fun W v h => growRun_any (lastOps keys key) v W h)
      rw [hl] at HRU
      have HRB : Hid (RD (w5.alloc (.cells #[.int .i64 G1.2, .int .i64 G2.2] 25)) eInt (.slice (some ⟨w5.heap.size, 0, none⟩) 2 2) [G1.2, G2.2]) := hide (RD.block (l := [G1.2, G2.2]) (heap_alloc_new w5 _) rfl (by simp [maxLen]))
      have HOA := hide (ok_any [G1.2, G2.2] _ _ HRB.out)
      rw [HOK.out] at HOA
      rw [hg1]
      clear hok hl hs hg1 hrg1 hrg2
      go_wp2_with fail
      with_reducible refine HOA.out.mono ?_
      rintro e w6 ⟨rfl, hw6⟩
      have kk6 : Kp w5 w6 := by rw [← hw6]; exact (Kp.refl w5).alloc
      have KW := hide (kk1.trans (kk2.trans (kk4.trans (kk5.trans kk6))))
      have HR26 := hide (HR2.out.kp (kk4.trans (kk5.trans kk6)))
      clear hw6 kk1 kk2 kk3 kk4 kk5 kk6 hi3 HO3 HZ3
      go_wp2_with fail
      with_reducible refine (HCL.out _ _ (HR.out.kp KW.out)).mono ?_
      rintro e w7 ⟨v7, rfl, ho7, hb7⟩
      have kk7 := Kp.of hb7
      obtain ⟨A7, c7, rfl, _, _⟩ := ho7.rd.shape
      have hi7 := ho7.hi
      have HO7 := hide ho7
      have HZ7 := hide hb7.size
      clear hb7 ho7
      go_wp2_with ((at_builtin; (with_reducible refine list_app (B := w6.heap.size) (l := keys) (m := [key]) row_int (.slice A7 keys.length c7) ?_ (.tmp 43) (.tmp 45) ?_ ?_ ?_ ?_ HM1.out HM2.out ?_ ?_); (with_reducible rfl); (with_reducible rfl); rfl; (exact HO7.out.alloc _); (show RD _ _ (.slice (some ⟨_, 0, none⟩) 1 1) _; (focus ((repeat (first | (with_reducible assumption) | exact RD.new1 _ rfl | (refine RD.new1e _ ?_ rfl; simp; done) | (with_reducible apply RD.alloc) | (with_reducible apply RD.drew) | (with_reducible apply RD.drewN) | ((with_reducible apply RD.belowR); (with_reducible assumption)))); done))); (have := HZ7.out; simp; omega); intro v8 w8 ho8 hg8 hat8); obtain ⟨A8, N8, c8, rfl⟩ := ho8.rd.slice; have kk8 : Kp w6 w8 := Kp.app hg8 kk7.alloc hi7; have HR8 := hide ho8.rd; clear hg8 hat8 ho8)
      obtain ⟨K, hK⟩ : ∃ K, K = keys ++ [key] := ⟨_, rfl⟩
      have hKl : K.length ≤ 101 := by rw [hK]; simp; omega
      rw [← hK] at HR8
      obtain ⟨A8', c8', e8, hc8, hm8, _⟩ := HR8.out
      injection e8 with e8a e8b e8c
      subst e8a e8b e8c
      have hm8' : K.length ≤ 9223372036854775807 := by omega
      have HLO : Hid (lastOps keys key = K.map putO ++ [(3, key, 0)]) := hide (by rw [lastOps, hK])
      clear hK
      go_loopw [9, 48] (LsRel K w8) (fun _ i _ => K.length - (intOf i).toNat)
      case atStart => exact ⟨0, by omega, rfl, OW.nil, Kp.refl _⟩
      case round =>
        obtain ⟨k, hk, rfl, ho, hkp⟩ := hrel
        have hi := ho.hi
        have HO := hide ho
        by_cases hlt : k < K.length
        · obtain ⟨b, o, rfl, _, x0⟩ := (HR8.out.kp hkp).int hlt
          obtain ⟨y, hy⟩ : ∃ y, y = K[k] := ⟨_, rfl⟩
          rw [← hy] at x0
          have HN : Hid ((K.take k).map putO ++ [putO y] = (K.take (k + 1)).map putO) := hide (by rw [List.take_succ_eq_append_getElem hlt, List.map_append, hy]; rfl)
          have HM3 : Hid ((((K.take k).map putO).length + [putO y].length) * 24 ≤ 140737488355328) := hide (by simp; omega)
          have HM4 : Hid (((K.take k).map putO).length + [putO y].length ≤ maxLen) := hide (by simp [maxLen]; omega)
          clear hy ho
          go_wp2_with ((at_builtin; (with_reducible refine list_app (B := w8.heap.size) (l := (K.take k).map putO) (m := [putO y]) row_op u9 ?_ (.tmp 52) (.tmp 55) ?_ ?_ ?_ ?_ HM3.out HM4.out ?_ ?_); (with_reducible rfl); (with_reducible rfl); rfl; (exact HO.out.alloc _); (show RD _ _ (.slice (some ⟨_, 0, none⟩) 1 1) _; (focus ((repeat (first | (with_reducible assumption) | exact RD.new1 _ rfl | (refine RD.new1e _ ?_ rfl; simp; done) | (with_reducible apply RD.alloc) | (with_reducible apply RD.drew) | (with_reducible apply RD.drewN) | ((with_reducible apply RD.belowR); (with_reducible assumption)))); done))); (have := hkp.size; simp; omega); intro v9 w9 ho9 hg9 hat9))
          go_roundw
          case rel => exact ⟨k + 1, by omega, by go_num, by rw [← HN.out]; exact ho9, Kp.app hg9 hkp.alloc hi⟩
          case measure => simp [intOf]; omega
        · have hkK : K.take k = K := List.take_of_length_le (by omega)
          rw [hkK] at HO
          have HM3 : Hid (((K.map putO).length + [((3, key, 0) : O3)].length) * 24 ≤ 140737488355328) := hide (by simp; omega)
          have HM4 : Hid ((K.map putO).length + [((3, key, 0) : O3)].length ≤ maxLen) := hide (by simp [maxLen]; omega)
          clear hkK ho
          go_wp2_with ((at_builtin; (with_reducible refine list_app (B := w8.heap.size) (l := K.map putO) (m := [((3, key, 0) : O3)]) row_op u9 ?_ (.tmp 59) (.tmp 62) ?_ ?_ ?_ ?_ HM3.out HM4.out ?_ ?_); (with_reducible rfl); (with_reducible rfl); rfl; (exact HO.out.alloc _); (show RD _ _ (.slice (some ⟨_, 0, none⟩) 1 1) _; (focus ((repeat (first | (with_reducible assumption) | exact RD.new1 _ rfl | (refine RD.new1e _ ?_ rfl; simp; done) | (with_reducible apply RD.alloc) | (with_reducible apply RD.drew) | (with_reducible apply RD.drewN) | ((with_reducible apply RD.belowR); (with_reducible assumption)))); done))); (have := hkp.size; simp; omega); intro v9 w9 ho9 hg9 hat9); obtain ⟨A9, N9, c9, rfl⟩ := ho9.rd.slice; have kk9 : Kp w8 w9 := Kp.app hg9 hkp.alloc hi; have HR9 := hide ho9.rd; clear hg9 hat9 ho9)
          rw [← HLO.out] at HR9
          with_reducible refine (HRU.out _ _ HR9.out).mono ?_
          rintro e w10 ⟨v10, u10, rfl, hr10, hu10, hb10⟩
          have kk10 := Kp.of hb10
          obtain ⟨B10, d10, rfl, _, _⟩ := hr10.shape
          have HR10 := hide hr10
          clear hr10 hu10 hb10
          go_wp2_with fail
          with_reducible refine (eqSpots_to s s true _ _ _ HR10.out (HR26.out.kp (kk8.trans (kk9.trans kk10))) (by simp)).mono ?_
          rintro e w11 ⟨rfl, hb11⟩
          have kk11 := Kp.of hb11
          clear hb11
          go_wp2
          go_ret
          exact ⟨rfl, (KW.out.trans (kk8.trans (kk9.trans (kk10.trans kk11)))).bel⟩
    · have HOK : Hid (okL [G1.2, G2.2] = false) := hide (by
        rw [okL_two]
        rcases Classical.not_and_iff_not_or_not.1 hok with h | h
        · simp [h]
        · simp [h])
      have HRB : Hid (RD (w5.alloc (.cells #[.int .i64 G1.2, .int .i64 G2.2] 25)) eInt (.slice (some ⟨w5.heap.size, 0, none⟩) 2 2) [G1.2, G2.2]) := hide (RD.block (l := [G1.2, G2.2]) (heap_alloc_new w5 _) rfl (by simp [maxLen]))
      have HOA := hide (ok_any [G1.2, G2.2] _ _ HRB.out)
      rw [HOK.out] at HOA
      clear hok
      go_wp2_with fail
      with_reducible refine HOA.out.mono ?_
      rintro e w6 ⟨rfl, hw6⟩
      have kk6 : Kp w5 w6 := by rw [← hw6]; exact (Kp.refl w5).alloc
      clear hw6
      go_wp2
      go_ret
      exact ⟨rfl, (kk1.trans (kk2.trans (kk4.trans (kk5.trans kk6)))).bel⟩
end Go.Proofs.Ytnallpdmdhbidaa
