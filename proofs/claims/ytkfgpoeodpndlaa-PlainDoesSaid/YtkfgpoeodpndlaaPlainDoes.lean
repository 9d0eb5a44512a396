/-
  hedglaw.PlainDoes: the walk: it answers true. Conditions: the list reads as l (RD).
-/
import Derived.Test.YtkfgpoeodpndlaaDoneLaw
namespace Go.Proofs.Ytkfgpoeodpndlaa
open Go.ChangeShapes Go.WideShapes Go.ChangeAt Go.RowKit
set_option linter.unusedVariables false
set_option linter.unusedSimpArgs false

set_option maxRecDepth 100000 in
set_option maxHeartbeats 8000000 in
theorem plainDoes_walk (l : List IP) (kind key val : Int) (v : Value) (w : World) (hr : RD w ePair v l) :
    Calls Try.prog 3 #[v, .agg #[.int .i64 kind, .int .i64 key, .int .i64 val]] w (Ret (.bool true) w) := by
  have HR := hide hr
  clear hr
  have HCK := hide (fun W v h => check_any l v W h)
  have HMR := hide (fun W v h => mapRight_any l v W h)
  have HDO := hide (fun W v h => do_any l kind key val v W h)
  by_cases h0 : mapRight l = 0
  · have hlen := mapRight_len l h0
    have HDN := hide (fun W v h => done_any l kind key val v W h (by omega))
    have hdd := done_do l kind key val h0
    rw [hdd] at HDN
    obtain ⟨R, hR⟩ : ∃ R, R = doA l kind key val := ⟨_, rfl⟩
    rw [← hR] at HDO HDN
    rw [h0] at HCK HMR
    obtain ⟨m, ra, rb, rc, rd⟩ := R
    clear hdd hR h0
    go_enter Try.func3, Try.ntmps3
    go_wp2_with fail
    refine (HDO.out _ _ (HR.out.alloc _)).mono ?_
    rintro e w1 ⟨v1, rfl, hr1, hb1⟩
    have kk1 := Kp.of hb1
    have o0 := kk1.cell (p := ⟨w.heap.size, 0, none⟩) (u := .int .i64 kind) (by simp [go_sem])
    have o1 := kk1.cell (p := ⟨w.heap.size, 1, none⟩) (u := .int .i64 key) (by simp [go_sem])
    have o2 := kk1.cell (p := ⟨w.heap.size, 2, none⟩) (u := .int .i64 val) (by simp [go_sem])
    obtain ⟨A1, c1, rfl, hc1, hm1⟩ := hr1.rd.shape
    have HR1 := hide hr1.rd
    clear hr1 hb1
    simp only [An.v]
    go_wp2_with fail
    refine (HMR.out _ _ (HR.out.kp (by (focus ((repeat (first | (with_reducible assumption) | (with_reducible exact Kp.refl _) | (with_reducible apply Kp.drew) | (with_reducible apply Kp.drewN) | (with_reducible apply Kp.alloc) | ((with_reducible apply Kp.callK); (with_reducible assumption)))); done))))).mono ?_
    rintro e w2 ⟨rfl, hb2⟩
    have kk2 := Kp.of hb2
    clear hb2
    go_wp2_with fail
    refine (HCK.out _ _ (HR.out.kp (by (focus ((repeat (first | (with_reducible assumption) | (with_reducible exact Kp.refl _) | (with_reducible apply Kp.drew) | (with_reducible apply Kp.drewN) | (with_reducible apply Kp.alloc) | ((with_reducible apply Kp.callK); (with_reducible assumption)))); done))))).mono ?_
    rintro e w3 ⟨rfl, hb3⟩
    have kk3 := Kp.of hb3
    clear hb3
    have KW3 : Hid (Kp w w3) := hide (by (focus ((repeat (first | (with_reducible assumption) | (with_reducible exact Kp.refl _) | (with_reducible apply Kp.drew) | (with_reducible apply Kp.drewN) | (with_reducible apply Kp.alloc) | ((with_reducible apply Kp.callK); (with_reducible assumption)))); done)))
    have k13 : Hid (Kp w1 w3) := hide (by (focus ((repeat (first | (with_reducible assumption) | (with_reducible exact Kp.refl _) | (with_reducible apply Kp.drew) | (with_reducible apply Kp.drewN) | (with_reducible apply Kp.alloc) | ((with_reducible apply Kp.callK); (with_reducible assumption)))); done)))
    replace o0 := k13.out.cell o0
    replace o1 := k13.out.cell o1
    replace o2 := k13.out.cell o2
    go_wp2_with fail
    refine (HDN.out _ _ (HR.out.kp KW3.out)).mono ?_
    rintro e w4 ⟨v4, rfl, hr4, _, hb4⟩
    have kk4 := Kp.of hb4
    have HR4 := hide hr4
    clear hr4 hb4 o0 o1 o2
    simp only [An.v]
    go_wp2_with fail
    refine (eqPairs_to m m true _ _ _ (HR1.out.kp (by (focus ((repeat (first | (with_reducible assumption) | (with_reducible exact Kp.refl _) | (with_reducible apply Kp.drew) | (with_reducible apply Kp.drewN) | (with_reducible apply Kp.alloc) | ((with_reducible apply Kp.callK); (with_reducible assumption)))); done)))) (HR4.out.kp (by (focus ((repeat (first | (with_reducible assumption) | (with_reducible exact Kp.refl _) | (with_reducible apply Kp.drew) | (with_reducible apply Kp.drewN) | (with_reducible apply Kp.alloc) | ((with_reducible apply Kp.callK); (with_reducible assumption)))); done)))) (by simp)).mono ?_
    rintro e w5 ⟨rfl, hb5⟩
    have kk5 := Kp.of hb5
    clear hb5
    obtain ⟨a0, a1, a2, a3⟩ := (BX.new w1 ra rb rc rd 27).kp (show Kp _ w5 by (focus ((repeat (first | (with_reducible assumption) | (with_reducible exact Kp.refl _) | (with_reducible apply Kp.drew) | (with_reducible apply Kp.drewN) | (with_reducible apply Kp.alloc) | ((with_reducible apply Kp.callK); (with_reducible assumption)))); done)))
    obtain ⟨b0, b1, b2, b3⟩ := (BX.new w4 ra rb rc rd 27).kp kk5
    simp only at a0 a1 a2 a3 b0 b1 b2 b3
    go_wp2
    go_ret
    exact ⟨rfl, Kp.bel (by (focus ((repeat (first | (with_reducible assumption) | (with_reducible exact Kp.refl _) | (with_reducible apply Kp.drew) | (with_reducible apply Kp.drewN) | (with_reducible apply Kp.alloc) | ((with_reducible apply Kp.callK); (with_reducible assumption)))); done)))⟩
  · have hda : doA l kind key val = ([], ⟨mapRight l, 0, 0, false⟩) := by rw [doA, if_neg h0]
    rw [hda] at HDO
    obtain ⟨s, hs⟩ : ∃ s, s = mapRight l := ⟨_, rfl⟩
    rw [← hs] at HDO HCK HMR h0
    have hne : (s != 0) = true := by simp [h0]
    have hee : (s != s) = false := by simp
    clear hda hs h0
    go_enter Try.func3, Try.ntmps3
    go_wp2_with fail
    refine (HDO.out _ _ (HR.out.alloc _)).mono ?_
    rintro e w1 ⟨v1, rfl, hr1, hb1⟩
    have kk1 := Kp.of hb1
    have o0 := kk1.cell (p := ⟨w.heap.size, 0, none⟩) (u := .int .i64 kind) (by simp [go_sem])
    have o1 := kk1.cell (p := ⟨w.heap.size, 1, none⟩) (u := .int .i64 key) (by simp [go_sem])
    have o2 := kk1.cell (p := ⟨w.heap.size, 2, none⟩) (u := .int .i64 val) (by simp [go_sem])
    obtain ⟨A1, c1, rfl, hc1, hm1⟩ := hr1.rd.shape
    have HR1 := hide hr1.rd
    clear hr1 hb1
    simp only [An.v]
    go_wp2_with fail
    refine (HMR.out _ _ (HR.out.kp (by (focus ((repeat (first | (with_reducible assumption) | (with_reducible exact Kp.refl _) | (with_reducible apply Kp.drew) | (with_reducible apply Kp.drewN) | (with_reducible apply Kp.alloc) | ((with_reducible apply Kp.callK); (with_reducible assumption)))); done))))).mono ?_
    rintro e w2 ⟨rfl, hb2⟩
    have kk2 := Kp.of hb2
    clear hb2
    go_wp2_with fail
    refine (HCK.out _ _ (HR.out.kp (by (focus ((repeat (first | (with_reducible assumption) | (with_reducible exact Kp.refl _) | (with_reducible apply Kp.drew) | (with_reducible apply Kp.drewN) | (with_reducible apply Kp.alloc) | ((with_reducible apply Kp.callK); (with_reducible assumption)))); done))))).mono ?_
    rintro e w3 ⟨rfl, hb3⟩
    have kk3 := Kp.of hb3
    clear hb3
    have KW3 : Hid (Kp w w3) := hide (by (focus ((repeat (first | (with_reducible assumption) | (with_reducible exact Kp.refl _) | (with_reducible apply Kp.drew) | (with_reducible apply Kp.drewN) | (with_reducible apply Kp.alloc) | ((with_reducible apply Kp.callK); (with_reducible assumption)))); done)))
    have k13 : Hid (Kp w1 w3) := hide (by (focus ((repeat (first | (with_reducible assumption) | (with_reducible exact Kp.refl _) | (with_reducible apply Kp.drew) | (with_reducible apply Kp.drewN) | (with_reducible apply Kp.alloc) | ((with_reducible apply Kp.callK); (with_reducible assumption)))); done)))
    replace o0 := k13.out.cell o0
    replace o1 := k13.out.cell o1
    replace o2 := k13.out.cell o2
    obtain ⟨a0, a1, a2, a3⟩ := (BX.new w1 s 0 0 false 27).kp (show Kp _ w3 by (focus ((repeat (first | (with_reducible assumption) | (with_reducible exact Kp.refl _) | (with_reducible apply Kp.drew) | (with_reducible apply Kp.drewN) | (with_reducible apply Kp.alloc) | ((with_reducible apply Kp.callK); (with_reducible assumption)))); done)))
    simp only at a0 a1 a2 a3
    clear o0 o1 o2
    go_wp2
    go_ret
    exact ⟨rfl, KW3.out.bel⟩
end Go.Proofs.Ytkfgpoeodpndlaa
