/-
  hedgkeep.PlainRanks: the walk: it answers true. Conditions: the list reads as l (RD).
-/
import Derived.Test.YtkfgpoeodpndlaaDoLaw
namespace Go.Proofs.Ytkfgpoeodpndlaa
open Go.ChangeShapes Go.WideShapes Go.ChangeAt Go.RowKit
set_option linter.unusedVariables false
set_option linter.unusedSimpArgs false

set_option maxRecDepth 100000 in
set_option maxHeartbeats 4000000 in
theorem plainRanks_walk (l : List IP) (n key more : Int) (v : Value) (w : World) (hr : RD w ePair v l) (hn : -9223372036854775808 ≤ n ∧ n ≤ 9223372036854775807) (hk : -9223372036854775808 ≤ key ∧ key ≤ 9223372036854775807) (hm : -9223372036854775808 ≤ more ∧ more ≤ 9223372036854775807) :
    Calls Try.prog 7 #[v, .int .i64 n, .int .i64 key, .int .i64 more] w (Ret (.bool true) w) := by
  obtain ⟨A, c, rfl, hc, hm1⟩ := hr.shape
  have HR := hide hr
  clear hr hn hk hm
  by_cases h0 : mapRight l = 0
  · have HX := hide (fun W v h => do_to l 6 key 0 _ (doA_count key 0 h0) v W h)
    have HY := hide (fun W v h => do_to l 6 more 0 _ (doA_count more 0 h0) v W h)
    have hmono : key ≤ more → below l key ≤ below l more := below_mono
    by_cases hin : 0 ≤ n ∧ n < l.length
    · obtain ⟨k, rfl⟩ : ∃ k : Nat, n = k := ⟨n.toNat, by omega⟩
      have hkl : k < l.length := by omega
      have HA := hide (fun W v h => do_to l 7 (k : Int) 0 _ ((doA_nth (k : Int) 0 h0).trans (by rw [toldL_at l k hkl])) v W h)
      have HB := hide (fun W v h => do_to l 6 l[k].1 0 _ ((doA_count l[k].1 0 h0).trans (by rw [below_at (rise_of h0) k hkl])) v W h)
      have b1 : (k : Int) < (l.length : Int) := by omega
      have d1 : decide ((k : Int) < (l.length : Int)) = true := by simp [hkl]
      have d1' : decide (k < l.length) = true := by simp [hkl]
      obtain ⟨B1, hB1⟩ : ∃ B, B = below l key := ⟨_, rfl⟩
      obtain ⟨B2, hB2⟩ : ∃ B, B = below l more := ⟨_, rfl⟩
      rw [← hB1] at HX hmono
      rw [← hB2] at HY hmono
      clear h0 hin hB1 hB2
      by_cases hgt : more < key
      all_goals
        have hle : more < key ∨ B1 ≤ B2 := by omega
        have HLE := hide hle
        clear hle hmono
        go_enter Try.func7, Try.ntmps7
        go_wp2_with fail
        refine (HA.out _ _ HR.out).mono ?_
        rintro e w1 ⟨v1, rfl, hr1, hb1⟩
        have k1 : Kp w w1 := hb1
        clear hr1 hb1
        simp only [An.v]
        go_wp2_with fail
        refine (HX.out _ _ ((HR.out.kp k1).alloc _)).mono ?_
        rintro e w2 ⟨v2, rfl, hr2, hb2⟩
        have k2 : Kp (w1.alloc (.cells #[.int .i64 0, .int .i64 l[k].1, .int .i64 l[k].2, .bool true] 27)) w2 := hb2
        have k20 : Kp w w2 := k1.alloc.trans k2
        have a1 := k2.cell (p := ⟨w1.heap.size, 0, none⟩) (u := .int .i64 0) (by simp [go_sem])
        have a2 := k2.cell (p := ⟨w1.heap.size, 1, none⟩) (u := .int .i64 l[k].1) (by simp [go_sem])
        have a3 := k2.cell (p := ⟨w1.heap.size, 3, none⟩) (u := .bool true) (by simp [go_sem])
        clear hr2 hb2
        simp only [An.v]
        go_wp2_with fail
        refine (HY.out _ _ ((HR.out.kp k20).alloc _)).mono ?_
        rintro e w3 ⟨v3, rfl, hr3, hb3⟩
        have k3 : Kp (w2.alloc (.cells #[.int .i64 0, .int .i64 0, .int .i64 (B1 : Int), .bool true] 27)) w3 := hb3
        have k30 : Kp w w3 := k20.alloc.trans k3
        have b2 := k3.cell (p := ⟨w2.heap.size, 2, none⟩) (u := .int .i64 (B1 : Int)) (by simp [go_sem])
        have k2a : Kp w2 w3 := (Kp.refl w2).alloc.trans k3
        clear hr3 hb3
        simp only [An.v]
        go_wp2_with fail
        refine (plainLives_any _).mono ?_
        rintro e w4 ⟨rfl, hb4⟩
        have k4 : Kp (w3.alloc (.cells #[.int .i64 0, .int .i64 0, .int .i64 (B2 : Int), .bool true] 27)) w4 := hb4
        have c2 := k4.cell (p := ⟨w3.heap.size, 2, none⟩) (u := .int .i64 (B2 : Int)) (by simp [go_sem])
        have k3a : Kp w3 w4 := (Kp.refl w3).alloc.trans k4
        have k2b : Kp w2 w4 := k2a.trans k3a
        have a1' := k2b.cell a1
        have a2' := k2b.cell a2
        have a3' := k2b.cell a3
        have b2' := k3a.cell b2
        have k40 : Kp w w4 := k30.trans k3a
        clear hb4 a1 a2 a3 b2
        go_wp2_with fail
        refine (HB.out _ _ (HR.out.kp k40)).mono ?_
        rintro e w5 ⟨v5, rfl, hr5, hb5⟩
        have k5 : Kp w4 w5 := hb5
        have k5a : Kp w4 (w5.alloc (.cells #[.int .i64 0, .int .i64 0, .int .i64 (k : Int), .bool true] 27)) := k5.alloc
        have a1 := k5a.cell a1'
        have a2 := k5a.cell a2'
        have a3 := k5a.cell a3'
        have b2 := k5a.cell b2'
        have c2' := k5a.cell c2
        clear hr5 hb5 a1' a2' a3' b2' c2
        simp only [An.v]
        have KF := hide (k40.trans k5a)
        have d5 : (more < key) ∨ ((B1 : Int) ≤ (B2 : Int)) := by have := HLE.out; omega
        first
          | (have d6 : decide (more < key) = true := by simp [hgt]
             clear d5 hgt
             go_wp2
             go_ret
             exact ⟨rfl, KF.out.bel⟩)
          | (have d6 : decide (more < key) = false := by simp; omega
             have d7 : decide ((B1 : Int) ≤ (B2 : Int)) = true := by simp; omega
             have d8 : decide (B1 ≤ B2) = true := by simp; omega
             clear d5 hgt
             go_wp2
             go_ret
             exact ⟨rfl, KF.out.bel⟩)
    · have HA := hide (fun W v h => do_to l 7 n 0 _ ((doA_nth n 0 h0).trans (by rw [toldL_no l n hin])) v W h)
      have HB := hide (fun W v h => do_to l 6 0 0 _ (doA_count 0 0 h0) v W h)
      obtain ⟨B0, hB0⟩ : ∃ B, B = below l 0 := ⟨_, rfl⟩
      obtain ⟨B1, hB1⟩ : ∃ B, B = below l key := ⟨_, rfl⟩
      obtain ⟨B2, hB2⟩ : ∃ B, B = below l more := ⟨_, rfl⟩
      rw [← hB0] at HB
      rw [← hB1] at HX hmono
      rw [← hB2] at HY hmono
      clear h0 hB1 hB2 hB0
      by_cases hneg : 0 ≤ n
      · have d0 : decide (0 ≤ n) = true := by simp [hneg]
        have d1 : decide (n < (l.length : Int)) = false := by simp; omega
        clear hin hneg
        by_cases hgt : more < key
        all_goals
          have hle : more < key ∨ B1 ≤ B2 := by omega
          have HLE := hide hle
          clear hle hmono
          go_enter Try.func7, Try.ntmps7
          go_wp2_with fail
          refine (HA.out _ _ HR.out).mono ?_
          rintro e w1 ⟨v1, rfl, hr1, hb1⟩
          have k1 : Kp w w1 := hb1
          clear hr1 hb1
          simp only [An.v]
          go_wp2_with fail
          refine (HX.out _ _ ((HR.out.kp k1).alloc _)).mono ?_
          rintro e w2 ⟨v2, rfl, hr2, hb2⟩
          have k2 : Kp (w1.alloc (.cells #[.int .i64 0, .int .i64 0, .int .i64 0, .bool false] 27)) w2 := hb2
          have k20 : Kp w w2 := k1.alloc.trans k2
          have a1 := k2.cell (p := ⟨w1.heap.size, 0, none⟩) (u := .int .i64 0) (by simp [go_sem])
          have a2 := k2.cell (p := ⟨w1.heap.size, 1, none⟩) (u := .int .i64 0) (by simp [go_sem])
          have a3 := k2.cell (p := ⟨w1.heap.size, 3, none⟩) (u := .bool false) (by simp [go_sem])
          clear hr2 hb2
          simp only [An.v]
          go_wp2_with fail
          refine (HY.out _ _ ((HR.out.kp k20).alloc _)).mono ?_
          rintro e w3 ⟨v3, rfl, hr3, hb3⟩
          have k3 : Kp (w2.alloc (.cells #[.int .i64 0, .int .i64 0, .int .i64 (B1 : Int), .bool true] 27)) w3 := hb3
          have k30 : Kp w w3 := k20.alloc.trans k3
          have b2 := k3.cell (p := ⟨w2.heap.size, 2, none⟩) (u := .int .i64 (B1 : Int)) (by simp [go_sem])
          have k2a : Kp w2 w3 := (Kp.refl w2).alloc.trans k3
          clear hr3 hb3
          simp only [An.v]
          go_wp2_with fail
          refine (plainLives_any _).mono ?_
          rintro e w4 ⟨rfl, hb4⟩
          have k4 : Kp (w3.alloc (.cells #[.int .i64 0, .int .i64 0, .int .i64 (B2 : Int), .bool true] 27)) w4 := hb4
          have c2 := k4.cell (p := ⟨w3.heap.size, 2, none⟩) (u := .int .i64 (B2 : Int)) (by simp [go_sem])
          have k3a : Kp w3 w4 := (Kp.refl w3).alloc.trans k4
          have k2b : Kp w2 w4 := k2a.trans k3a
          have a1' := k2b.cell a1
          have a2' := k2b.cell a2
          have a3' := k2b.cell a3
          have b2' := k3a.cell b2
          have k40 : Kp w w4 := k30.trans k3a
          clear hb4 a1 a2 a3 b2
          go_wp2_with fail
          refine (HB.out _ _ (HR.out.kp k40)).mono ?_
          rintro e w5 ⟨v5, rfl, hr5, hb5⟩
          have k5 : Kp w4 w5 := hb5
          have k5a : Kp w4 (w5.alloc (.cells #[.int .i64 0, .int .i64 0, .int .i64 (B0 : Int), .bool true] 27)) := k5.alloc
          have a1 := k5a.cell a1'
          have a2 := k5a.cell a2'
          have a3 := k5a.cell a3'
          have b2 := k5a.cell b2'
          have c2' := k5a.cell c2
          clear hr5 hb5 a1' a2' a3' b2' c2
          simp only [An.v]
          have KF := hide (k40.trans k5a)
          have d5 : (more < key) ∨ ((B1 : Int) ≤ (B2 : Int)) := by have := HLE.out; omega
          first
            | (have d6 : decide (more < key) = true := by simp [hgt]
               clear d5 hgt
               go_wp2
               go_ret
               exact ⟨rfl, KF.out.bel⟩)
            | (have d6 : decide (more < key) = false := by simp; omega
               have d7 : decide ((B1 : Int) ≤ (B2 : Int)) = true := by simp; omega
               have d8 : decide (B1 ≤ B2) = true := by simp; omega
               clear d5 hgt
               go_wp2
               go_ret
               exact ⟨rfl, KF.out.bel⟩)
      · have d0 : decide (0 ≤ n) = false := by simp; omega
        clear hin hneg
        by_cases hgt : more < key
        all_goals
          have hle : more < key ∨ B1 ≤ B2 := by omega
          have HLE := hide hle
          clear hle hmono
          go_enter Try.func7, Try.ntmps7
          go_wp2_with fail
          refine (HA.out _ _ HR.out).mono ?_
          rintro e w1 ⟨v1, rfl, hr1, hb1⟩
          have k1 : Kp w w1 := hb1
          clear hr1 hb1
          simp only [An.v]
          go_wp2_with fail
          refine (HX.out _ _ ((HR.out.kp k1).alloc _)).mono ?_
          rintro e w2 ⟨v2, rfl, hr2, hb2⟩
          have k2 : Kp (w1.alloc (.cells #[.int .i64 0, .int .i64 0, .int .i64 0, .bool false] 27)) w2 := hb2
          have k20 : Kp w w2 := k1.alloc.trans k2
          have a1 := k2.cell (p := ⟨w1.heap.size, 0, none⟩) (u := .int .i64 0) (by simp [go_sem])
          have a2 := k2.cell (p := ⟨w1.heap.size, 1, none⟩) (u := .int .i64 0) (by simp [go_sem])
          have a3 := k2.cell (p := ⟨w1.heap.size, 3, none⟩) (u := .bool false) (by simp [go_sem])
          clear hr2 hb2
          simp only [An.v]
          go_wp2_with fail
          refine (HY.out _ _ ((HR.out.kp k20).alloc _)).mono ?_
          rintro e w3 ⟨v3, rfl, hr3, hb3⟩
          have k3 : Kp (w2.alloc (.cells #[.int .i64 0, .int .i64 0, .int .i64 (B1 : Int), .bool true] 27)) w3 := hb3
          have k30 : Kp w w3 := k20.alloc.trans k3
          have b2 := k3.cell (p := ⟨w2.heap.size, 2, none⟩) (u := .int .i64 (B1 : Int)) (by simp [go_sem])
          have k2a : Kp w2 w3 := (Kp.refl w2).alloc.trans k3
          clear hr3 hb3
          simp only [An.v]
          go_wp2_with fail
          refine (plainLives_any _).mono ?_
          rintro e w4 ⟨rfl, hb4⟩
          have k4 : Kp (w3.alloc (.cells #[.int .i64 0, .int .i64 0, .int .i64 (B2 : Int), .bool true] 27)) w4 := hb4
          have c2 := k4.cell (p := ⟨w3.heap.size, 2, none⟩) (u := .int .i64 (B2 : Int)) (by simp [go_sem])
          have k3a : Kp w3 w4 := (Kp.refl w3).alloc.trans k4
          have k2b : Kp w2 w4 := k2a.trans k3a
          have a1' := k2b.cell a1
          have a2' := k2b.cell a2
          have a3' := k2b.cell a3
          have b2' := k3a.cell b2
          have k40 : Kp w w4 := k30.trans k3a
          clear hb4 a1 a2 a3 b2
          go_wp2_with fail
          refine (HB.out _ _ (HR.out.kp k40)).mono ?_
          rintro e w5 ⟨v5, rfl, hr5, hb5⟩
          have k5 : Kp w4 w5 := hb5
          have k5a : Kp w4 (w5.alloc (.cells #[.int .i64 0, .int .i64 0, .int .i64 (B0 : Int), .bool true] 27)) := k5.alloc
          have a1 := k5a.cell a1'
          have a2 := k5a.cell a2'
          have a3 := k5a.cell a3'
          have b2 := k5a.cell b2'
          have c2' := k5a.cell c2
          clear hr5 hb5 a1' a2' a3' b2' c2
          simp only [An.v]
          have KF := hide (k40.trans k5a)
          have d5 : (more < key) ∨ ((B1 : Int) ≤ (B2 : Int)) := by have := HLE.out; omega
          first
            | (have d6 : decide (more < key) = true := by simp [hgt]
               clear d5 hgt
               go_wp2
               go_ret
               exact ⟨rfl, KF.out.bel⟩)
            | (have d6 : decide (more < key) = false := by simp; omega
               have d7 : decide ((B1 : Int) ≤ (B2 : Int)) = true := by simp; omega
               have d8 : decide (B1 ≤ B2) = true := by simp; omega
               clear d5 hgt
               go_wp2
               go_ret
               exact ⟨rfl, KF.out.bel⟩)
  · have HA := hide (fun W v h => do_to l 7 n 0 _ (doA_bad n 0 7 h0) v W h)
    have HX := hide (fun W v h => do_to l 6 key 0 _ (doA_bad key 0 6 h0) v W h)
    have HY := hide (fun W v h => do_to l 6 more 0 _ (doA_bad more 0 6 h0) v W h)
    have hne : (mapRight l != 0) = true := by simp [h0]
    clear h0
    go_enter Try.func7, Try.ntmps7
    go_wp2_with fail
    refine (HA.out _ _ HR.out).mono ?_
    rintro e w1 ⟨v1, rfl, hr1, hb1⟩
    have k1 : Kp w w1 := hb1
    clear hr1 hb1
    simp only [An.v]
    go_wp2_with fail
    refine (HX.out _ _ ((HR.out.kp k1).alloc _)).mono ?_
    rintro e w2 ⟨v2, rfl, hr2, hb2⟩
    have k2 : Kp (w1.alloc (.cells #[.int .i64 (mapRight l), .int .i64 0, .int .i64 0, .bool false] 27)) w2 := hb2
    have k20 : Kp w w2 := k1.alloc.trans k2
    have a1 := k2.cell (p := ⟨w1.heap.size, 0, none⟩) (u := .int .i64 (mapRight l)) (by simp [go_sem])
    clear hr2 hb2
    simp only [An.v]
    go_wp2_with fail
    refine (HY.out _ _ ((HR.out.kp k20).alloc _)).mono ?_
    rintro e w3 ⟨v3, rfl, hr3, hb3⟩
    have k3 : Kp w2 w3 := (Kp.refl w2).alloc.trans hb3
    have k30 : Kp w w3 := k20.trans k3
    clear hr3 hb3
    simp only [An.v]
    go_wp2_with fail
    refine (plainLives_any _).mono ?_
    rintro e w4 ⟨rfl, hb4⟩
    have k4 : Kp w3 w4 := (Kp.refl w3).alloc.trans hb4
    have a1' := (k3.trans k4).cell a1
    have k40 : Kp w w4 := k30.trans k4
    clear hb4 a1
    go_wp2_with fail
    refine (plainLives_any _).mono ?_
    rintro e w5 ⟨rfl, hb5⟩
    go_wp2
    go_ret
    exact ⟨rfl, (k40.trans hb5).bel⟩
end Go.Proofs.Ytkfgpoeodpndlaa
