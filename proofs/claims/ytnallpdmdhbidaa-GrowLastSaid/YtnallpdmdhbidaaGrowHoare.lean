/-
  hedgkeep.GrowHoare: the walk: it answers true. Conditions: the list reads as l (RD).
-/
import Derived.Test.YtnallpdmdhbidaaGLaw
import Derived.Test.YtnallpdmdhbidaaGLives
namespace Go.Proofs.Ytnallpdmdhbidaa
open Go.ChangeShapes Go.WideShapes Go.ChangeAt Go.RowKit
set_option linter.unusedVariables false
set_option linter.unusedSimpArgs false

def CtR (n : Nat) (w : World) (i : Value) (wr : World) : Prop := ∃ k : Nat, k ≤ n ∧ i = .int .i64 k ∧ Kp w wr
set_option maxRecDepth 100000 in
set_option maxHeartbeats 8000000 in
theorem growHoare_walk (l : List Int) (v : Value) (w : World) (hr : RD w eInt v l) : Calls Try.prog 6 #[v] w (Ret (.bool true) w) := by
  obtain ⟨A, c, rfl, hc, hm⟩ := hr.shape
  have HR := hide hr
  clear hr
  have HOF := hide (fun W v h => growOf_any l v W h)
  have HSO := hide (fun W v h => growSort_any l v W h)
  by_cases h0 : rightG l = 0
  · obtain ⟨hlen, hki, hnd⟩ := rightG_ok l h0
    obtain ⟨f1, f2, f3, f4, f5⟩ := ofT_facts l.length l (Nat.le_refl _) hnd
    have hof : growOf l = ((ofT l).spotsBy Prod.fst 0, 0) := by rw [growOf, if_neg (by simp [h0])]
    have hso : sortG l = ((sortF l.length l).1, (sortF l.length l).2, 0) := by rw [sortG, if_neg (by simp [h0])]
    have hrt := spotsBy_right Prod.fst (ofT l) (by omega) f4 (fun x hx => hki x ((f5 x).1 hx))
    have hsl := MT.spotsBy_len Prod.fst (ofT l) 0
    have hkk := spotsBy_keys Prod.fst (ofT l) 0
    obtain ⟨s, hs⟩ : ∃ s, s = (ofT l).spotsBy Prod.fst 0 := ⟨_, rfl⟩
    obtain ⟨⟨L, n⟩, hP⟩ : ∃ P, P = sortF l.length l := ⟨_, rfl⟩
    rw [← hs] at hof hrt hsl hkk f3
    rw [← hP] at hso f2 f3
    simp only at f2 f3 hso
    have hsum : sumOf s = (mostL s, n, 0) := by rw [sumOf, if_neg (by rw [hrt]; simp), f3]
    have hLs : L = s.map Prod.fst := by rw [f2, hkk]
    have HSU := hide (fun W v h => sum_any s v W h)
    rw [hof] at HOF
    rw [hso] at HSO
    rw [hsum] at HSU
    obtain ⟨M, hM⟩ : ∃ M, M = mostL s := ⟨_, rfl⟩
    rw [← hM] at HSU
    have HLS : Hid (∀ k (h1 : k < s.length) (h2 : k < L.length), L[k]'h2 = s[k].1) := hide (fun k h1 h2 => by simp [hLs])
    have hLl : L.length = s.length := by rw [hLs]; simp
    have HLL := hide hLl
    have b1 : ((L.length : Int) != (s.length : Int)) = false := by rw [hLl]; simp
    have b2 : (n != n) = false := by simp
    clear h0 hki hnd f1 f2 f3 f4 f5 hof hso hrt hsl hkk hs hP hsum hLs hM hLl
    go_enter Try.func6, Try.ntmps6
    go_wp2_with fail
    with_reducible refine ((HOF).out _ _ (HR.out)).mono ?_
    rintro e w1 ⟨v1, rfl, hr1, hb1⟩
    have kk1 := Kp.of hb1
    have HR1 := hide hr1
    clear hr1 hb1
    go_wp2_with fail
    with_reducible refine (HSO.out _ _ (HR.out.kp kk1)).mono ?_
    rintro e w2 ⟨v2, rfl, hr2, hb2⟩
    have kk2 := Kp.of hb2
    have HR2 := hide hr2
    obtain ⟨As, cs, rfl, hcs, hms⟩ := HR1.out.shape
    obtain ⟨Al, cl, rfl, hcl, hml⟩ := HR2.out.shape
    clear hr2 hb2
    go_wp2_with fail
    with_reducible refine (growLives_any _).mono ?_
    rintro e w3 ⟨rfl, hb3⟩
    have kk3 := Kp.of hb3
    clear hb3
    go_wp2_with fail
    with_reducible refine (HSU.out _ _ (HR1.out.kp (kk2.trans kk3))).mono ?_
    rintro e w4 ⟨rfl, hb4⟩
    have kk4 := Kp.of hb4
    have HS4 := hide (HR1.out.kp (kk2.trans (kk3.trans kk4)))
    have HL4 := hide (HR2.out.kp (kk3.trans kk4))
    have KW := hide (kk1.trans (kk2.trans (kk3.trans kk4)))
    clear hb4 kk1 kk2 kk3 kk4
    go_wp2
    go_loopw [55] (CtR s.length w4) (fun i _ => s.length - (intOf i).toNat)
    case atStart => exact ⟨0, by omega, rfl, Kp.refl _⟩
    case round =>
      obtain ⟨k, hk, rfl, hkp⟩ := hrel
      by_cases hlt : k < s.length
      · have hkL : k < L.length := by rw [HLL.out]; exact hlt
        obtain ⟨b, o, rfl, _, c0, c1⟩ := (HS4.out.kp hkp).pair hlt
        obtain ⟨b', o', rfl, _, d0⟩ := (HL4.out.kp hkp).int hkL
        rw [HLS.out k hlt hkL] at d0
        obtain ⟨y, hy⟩ : ∃ y, y = s[k].1 := ⟨_, rfl⟩
        rw [← hy] at c0 d0
        have e1 : (y != y) = false := by simp
        have bk : (k : Int) < (L.length : Int) := by omega
        have bk0 : (0 : Int) ≤ (k : Int) := by omega
        have d1 := ((Kp.refl wr).alloc (o := .cells #[.int .i64 y, .int .i64 s[k].2] 38)).cell d0
        clear hy
        go_wp2_with fail
        go_quiet (fail)
        go_wp2
        go_roundw
        case rel => exact ⟨k + 1, by omega, by go_num, (by (focus ((repeat (first | (with_reducible assumption) | (with_reducible exact Kp.refl _) | (with_reducible apply Kp.drew) | (with_reducible apply Kp.drewN) | ((with_reducible apply Kp.setR); (focus (first | (with_reducible assumption) | (simp; done) | (simp; omega)))) | (with_reducible apply Kp.alloc) | ((with_reducible apply Kp.call); (with_reducible assumption)) | ((with_reducible apply Kp.app); (with_reducible assumption)))); done)))⟩
        case measure => simp [intOf]; omega
      · go_wp2
        go_ret
        exact ⟨rfl, (KW.out.trans hkp).bel⟩
  · have hof : growOf l = ([], rightG l) := by rw [growOf, if_pos h0]
    have hso : sortG l = ([], 0, rightG l) := by rw [sortG, if_pos h0]
    obtain ⟨r, hr⟩ : ∃ r, r = rightG l := ⟨_, rfl⟩
    rw [← hr] at hof hso h0
    rw [hof] at HOF
    rw [hso] at HSO
    have b1 : (r != 0) = true := by simp [h0]
    have b2 : (r != r) = false := by simp
    clear hof hso hr h0
    go_enter Try.func6, Try.ntmps6
    go_wp2_with fail
    with_reducible refine ((HOF).out _ _ (HR.out)).mono ?_
    rintro e w1 ⟨v1, rfl, hr1, hb1⟩
    have kk1 := Kp.of hb1
    have HR1 := hide hr1
    clear hr1 hb1
    go_wp2_with fail
    with_reducible refine (HSO.out _ _ (HR.out.kp kk1)).mono ?_
    rintro e w2 ⟨v2, rfl, hr2, hb2⟩
    have kk2 := Kp.of hb2
    clear hr2 hb2
    go_wp2_with fail
    with_reducible refine (growLives_any _).mono ?_
    rintro e w3 ⟨rfl, hb3⟩
    have kk3 := Kp.of hb3
    clear hb3
    go_wp2
    go_ret
    exact ⟨rfl, (kk1.trans (kk2.trans kk3)).bel⟩
end Go.Proofs.Ytnallpdmdhbidaa
