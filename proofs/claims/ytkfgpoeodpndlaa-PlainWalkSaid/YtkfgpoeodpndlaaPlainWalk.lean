/-
  hedgkeep.PlainWalk: the walk: it answers true. Conditions: the list reads as l (RD).
-/
import Derived.Test.YtkfgpoeodpndlaaPlainLaw
namespace Go.Proofs.Ytkfgpoeodpndlaa
open Go.ChangeShapes Go.WideShapes Go.ChangeAt Go.RowKit
set_option linter.unusedVariables false
set_option linter.unusedSimpArgs false

def FZ (W : World) (a : Nat) : Prop := W.frozen? ⟨a, 0, none⟩ = false ∧ W.frozen? ⟨a, 1, none⟩ = false ∧ W.frozen? ⟨a, 2, none⟩ = false ∧ W.frozen? ⟨a, 3, none⟩ = false
theorem FZ.kp {W W' : World} {a : Nat} (h : FZ W a) (ha : a < W.heap.size) (hk : Kp W W') : FZ W' a := ⟨(hk.frozen (p := ⟨a, 0, none⟩) ha).trans h.1, (hk.frozen (p := ⟨a, 1, none⟩) ha).trans h.2.1, (hk.frozen (p := ⟨a, 2, none⟩) ha).trans h.2.2.1, (hk.frozen (p := ⟨a, 3, none⟩) ha).trans h.2.2.2⟩
theorem FZ.new (w : World) (cs : Array Value) (t : TypeId) : FZ (w.alloc (.cells cs t)) w.heap.size := by simp [FZ, go_sem]
theorem BX.lt {W : World} {a : Nat} {n : An} (h : BX W a n) : a < W.heap.size := World.block_lt_of_cell? _ _ h.1
theorem BX.set {W : World} {a : Nat} {n : An} (h : BX W a n) (e k v : Int) (i : Bool) : BX ((((W.setCell ⟨a, 0, none⟩ (.int .i64 e)).setCell ⟨a, 1, none⟩ (.int .i64 k)).setCell ⟨a, 2, none⟩ (.int .i64 v)).setCell ⟨a, 3, none⟩ (.bool i)) a ⟨e, k, v, i⟩ := by
  obtain ⟨h0, h1, h2, h3⟩ := h
  simp [BX, go_sem, h0, h1, h2, h3]
theorem FZ.set {W : World} {a : Nat} (h : FZ W a) (e k v : Int) (i : Bool) : FZ ((((W.setCell ⟨a, 0, none⟩ (.int .i64 e)).setCell ⟨a, 1, none⟩ (.int .i64 k)).setCell ⟨a, 2, none⟩ (.int .i64 v)).setCell ⟨a, 3, none⟩ (.bool i)) a := by
  obtain ⟨h0, h1, h2, h3⟩ := h
  simp [FZ, go_sem, h0, h1, h2, h3]

def WkRel (l : List IP) (w : World) (a : Nat) (i : Value) (wr : World) : Prop := ∃ k : Nat, k ≤ l.length ∧ i = .int .i64 k ∧ BX wr a (toldL l k) ∧ FZ wr a ∧ Kp w wr

set_option maxRecDepth 100000 in
set_option maxHeartbeats 8000000 in
theorem plainWalk_walk (l : List IP) (v : Value) (w : World) (hr : RD w ePair v l) : Calls Try.prog 6 #[v] w (Ret (.bool true) w) := by
  obtain ⟨A, c, rfl, hc, hm⟩ := hr.shape
  have HR := hide hr
  clear hr
  have HCK := hide (fun W v h => check_any l v W h)
  by_cases h0 : mapRight l = 0
  · have hin := mapRight_in l h0
    rw [h0] at HCK
    have hris := rise_of h0
    have H0 := hide (fun W v h => do_to l 7 0 0 _ ((doA_nth 0 0 h0)) v W h)
    obtain ⟨T0, hT0⟩ : ∃ T, T = toldL l 0 := ⟨_, rfl⟩
    rw [← hT0] at H0
    obtain ⟨ta, tb, tc, td⟩ := T0
    have HT0 := hide hT0
    have HP := hide (fun k (hk : k < l.length) W v h => do_to l 5 l[k].1 0 (l, toldL l ((k : Int) - 1)) ((doA_prev l[k].1 0 h0 (hin _ (List.getElem_mem hk))).trans (by rw [below_at hris k hk])) v W h)
    have HN := hide (fun k (hk : k < l.length) W v h => do_to l 4 l[k].1 0 (l, toldL l ((k : Int) + 1)) ((doA_next l[k].1 0 h0 (hin _ (List.getElem_mem hk))).trans (by
      have hh : hasKey l l[k].1 = true := (hasKey_iff l hris _).2 ⟨by rw [below_at hris k hk]; exact hk, by simp only [below_at hris k hk]⟩
      rw [nextL, hh, if_pos rfl, below_at hris k hk])) v W h)
    have hlen := mapRight_len l h0
    clear hT0 hris hin h0
    go_enter Try.func6, Try.ntmps6
    go_wp2_with fail
    refine (plainLives_any _).mono ?_
    rintro e w1 ⟨rfl, hb1⟩
    have kk1 := Kp.of hb1
    clear hb1
    go_wp2_with fail
    refine (HCK.out _ _ (HR.out.kp (by (focus ((repeat (first | (with_reducible assumption) | (with_reducible exact Kp.refl _) | (with_reducible apply Kp.drew) | (with_reducible apply Kp.drewN) | (with_reducible apply Kp.alloc) | ((with_reducible apply Kp.callK); (with_reducible assumption)))); done))))).mono ?_
    rintro e w2 ⟨rfl, hb2⟩
    have kk2 := Kp.of hb2
    clear hb2
    go_wp2_with fail
    refine (H0.out _ _ (HR.out.kp (by (focus ((repeat (first | (with_reducible assumption) | (with_reducible exact Kp.refl _) | (with_reducible apply Kp.drew) | (with_reducible apply Kp.drewN) | (with_reducible apply Kp.alloc) | ((with_reducible apply Kp.callK); (with_reducible assumption)))); done))))).mono ?_
    rintro e w3 ⟨v3, rfl, hr3, hb3⟩
    have kk3 := Kp.of hb3
    have HR3 := hide hr3.rd
    clear hr3 hb3
    simp only [An.v]
    go_wp2_with fail
    have hkw : Kp w w3 := by (focus ((repeat (first | (with_reducible assumption) | (with_reducible exact Kp.refl _) | (with_reducible apply Kp.drew) | (with_reducible apply Kp.drewN) | (with_reducible apply Kp.alloc) | ((with_reducible apply Kp.callK); (with_reducible assumption)))); done))
    go_loopw [25] (WkRel l w w3.heap.size) (fun i _ => l.length - (intOf i).toNat)
    case atStart => exact ⟨0, by omega, rfl, by rw [Int.natCast_zero, ← HT0.out]; exact BX.new _ _ _ _ _ _, FZ.new _ _ _, hkw.alloc⟩
    case round =>
      clear kk1 kk2 kk3
      obtain ⟨k, hk, rfl, hbx, hfz, hkp⟩ := hrel
      have hlt3 := hbx.lt
      have HFZ := hide hfz
      have hsz := hkw.size
      clear hfz
      by_cases hlt : k < l.length
      · obtain ⟨b, o, rfl, _, c0, c1⟩ := (HR.out.kp hkp).pair hlt
        rw [toldL_at l k hlt] at hbx
        have HBX := hide hbx
        obtain ⟨a0, a1, a2, a3⟩ := hbx
        simp only at a0 a1 a2 a3
        have HPk := hide (HP.out k hlt)
        have HNk := hide (HN.out k hlt)
        obtain ⟨N, hN⟩ : ∃ N, N = toldL l ((k : Int) + 1) := ⟨_, rfl⟩
        rw [← hN] at HNk
        obtain ⟨na, nb, nc, nd⟩ := N
        have HNN := hide hN
        clear hN
        obtain ⟨wo, rfl⟩ : ∃ wo : World, wo = wr := ⟨_, rfl⟩
        have n1 : ¬ w3.heap.size = wo.heap.size := by omega
        have n2 : ¬ wo.heap.size = w3.heap.size := by omega
        have bk : (k : Int) < (l.length : Int) := by omega
        by_cases hk0 : k = 0
        · have hp0 : toldL l ((k : Int) - 1) = ⟨0, 0, 0, false⟩ := toldL_no l _ (by omega)
          rw [hp0] at HPk
          have d0 : decide (0 < k) = false := by simp; omega
          have d0' : decide ((0 : Int) < (k : Int)) = false := by simp; omega
          clear hp0 hk0
          go_wp2_with fail
          refine (HPk.out _ _ ((HR.out.kp (by (focus ((repeat (first | (with_reducible assumption) | (with_reducible exact Kp.refl _) | (with_reducible apply Kp.drew) | (with_reducible apply Kp.drewN) | (with_reducible apply Kp.alloc) | ((with_reducible apply Kp.callK); (with_reducible assumption)))); done)))))).mono ?_
          rintro e w4 ⟨v4, rfl, hr4, hb4⟩
          have kk4 := Kp.of hb4
          clear hr4 hb4
          simp only [An.v]
          go_wp2_with fail
          go_quiet (fail)
          have KQ : Hid (∀ x, Kp (wo.alloc (.cells #[.int .i64 l[k].1, .int .i64 l[k].2] 33)) x → x.cell? ⟨wo.heap.size, 0, none⟩ = some (.int .i64 l[k].1)) := hide (fun x h => h.cell (by simp [go_sem]))
          have p0 := KQ.out _ (Kp.alloc (o := .cells #[.int .i64 0, .int .i64 0, .int .i64 0, .bool false] 27) kk4)
          go_wp2_with fail
          refine (HNk.out _ _ ((HR.out.kp (by (focus ((repeat (first | (with_reducible assumption) | (with_reducible exact Kp.refl _) | (with_reducible apply Kp.drew) | (with_reducible apply Kp.drewN) | (with_reducible apply Kp.alloc) | ((with_reducible apply Kp.callK); (with_reducible assumption)))); done)))))).mono ?_
          rintro e w5 ⟨v5, rfl, hr5, hb5⟩
          have kk5 := Kp.of hb5
          clear hr5 hb5
          simp only [An.v]
          have hk5 : Kp wo w5 := by (focus ((repeat (first | (with_reducible assumption) | (with_reducible exact Kp.refl _) | (with_reducible apply Kp.drew) | (with_reducible apply Kp.drewN) | (with_reducible apply Kp.alloc) | ((with_reducible apply Kp.callK); (with_reducible assumption)))); done))
          obtain ⟨f0, f1, f2, f3⟩ := HFZ.out.kp hlt3 hk5
          have HB5 := hide (HBX.out.kp hk5)
          obtain ⟨a0', a1', a2', a3'⟩ := HBX.out.kp hk5
          simp only at a0' a1' a2' a3'
          go_wp2
          go_roundw
          case rel =>
            refine ⟨k + 1, by omega, by go_num, ?_, (HFZ.out.kp hlt3 hk5).set _ _ _ _, ?_⟩
            · have := HB5.out.set na nb nc nd
              rw [HNN.out] at this
              exact this
            · exact Kp.setR (by simp; omega) (Kp.setR (by simp; omega) (Kp.setR (by simp; omega) (Kp.setR (by simp; omega) (hkp.trans hk5))))
          case measure => simp [intOf]; omega
        · have hkm : k - 1 < l.length := by omega
          have hp0 : toldL l ((k : Int) - 1) = ⟨0, l[k - 1].1, l[k - 1].2, true⟩ := by
            rw [show (k : Int) - 1 = ((k - 1 : Nat) : Int) from by omega]; exact toldL_at l (k - 1) hkm
          rw [hp0] at HPk
          have d0 : decide (0 < k) = true := by simp; omega
          have d0' : decide ((0 : Int) < (k : Int)) = true := by simp; omega
          have hw1 : IntKind.i64.wrap ((k : Int) - 1) = (k : Int) - 1 := IntWalk.i64_in _ (by omega)
          have hw2 : (0 : Int) ≤ (k : Int) - 1 := by omega
          have hw3 : (k : Int) - 1 < (l.length : Int) := by omega
          have hw4 : ((k : Int) - 1).toNat = k - 1 := by omega
          have tne : (l[k - 1].1 != l[k - 1].1) = false := by simp
          clear hp0 hk0
          go_wp2_with fail
          refine (HPk.out _ _ ((HR.out.kp (by (focus ((repeat (first | (with_reducible assumption) | (with_reducible exact Kp.refl _) | (with_reducible apply Kp.drew) | (with_reducible apply Kp.drewN) | (with_reducible apply Kp.alloc) | ((with_reducible apply Kp.callK); (with_reducible assumption)))); done)))))).mono ?_
          rintro e w4 ⟨v4, rfl, hr4, hb4⟩
          have kk4 := Kp.of hb4
          obtain ⟨b', o', e1, _, c2, _⟩ := (HR.out.kp (show Kp w w4 by (focus ((repeat (first | (with_reducible assumption) | (with_reducible exact Kp.refl _) | (with_reducible apply Kp.drew) | (with_reducible apply Kp.drewN) | (with_reducible apply Kp.alloc) | ((with_reducible apply Kp.callK); (with_reducible assumption)))); done)))).pair hkm
          injection e1 with e1
          injection e1 with e2 e3
          subst e2 e3
          clear hr4 hb4
          simp only [An.v]
          go_wp2_with fail
          go_quiet (fail)
          have KQ : Hid (∀ x, Kp (wo.alloc (.cells #[.int .i64 l[k].1, .int .i64 l[k].2] 33)) x → x.cell? ⟨wo.heap.size, 0, none⟩ = some (.int .i64 l[k].1)) := hide (fun x h => h.cell (by simp [go_sem]))
          have p0 := KQ.out _ (Kp.alloc (o := .cells #[.int .i64 0, .int .i64 l[k - 1].1, .int .i64 l[k - 1].2, .bool true] 27) kk4)
          go_wp2_with fail
          refine (HNk.out _ _ ((HR.out.kp (by (focus ((repeat (first | (with_reducible assumption) | (with_reducible exact Kp.refl _) | (with_reducible apply Kp.drew) | (with_reducible apply Kp.drewN) | (with_reducible apply Kp.alloc) | ((with_reducible apply Kp.callK); (with_reducible assumption)))); done)))))).mono ?_
          rintro e w5 ⟨v5, rfl, hr5, hb5⟩
          have kk5 := Kp.of hb5
          clear hr5 hb5
          simp only [An.v]
          have hk5 : Kp wo w5 := by (focus ((repeat (first | (with_reducible assumption) | (with_reducible exact Kp.refl _) | (with_reducible apply Kp.drew) | (with_reducible apply Kp.drewN) | (with_reducible apply Kp.alloc) | ((with_reducible apply Kp.callK); (with_reducible assumption)))); done))
          obtain ⟨f0, f1, f2, f3⟩ := HFZ.out.kp hlt3 hk5
          have HB5 := hide (HBX.out.kp hk5)
          obtain ⟨a0', a1', a2', a3'⟩ := HBX.out.kp hk5
          simp only at a0' a1' a2' a3'
          go_wp2
          go_roundw
          case rel =>
            refine ⟨k + 1, by omega, by go_num, ?_, (HFZ.out.kp hlt3 hk5).set _ _ _ _, ?_⟩
            · have := HB5.out.set na nb nc nd
              rw [HNN.out] at this
              exact this
            · exact Kp.setR (by simp; omega) (Kp.setR (by simp; omega) (Kp.setR (by simp; omega) (Kp.setR (by simp; omega) (hkp.trans hk5))))
          case measure => simp [intOf]; omega
      · rw [toldL_no l k (by omega)] at hbx
        obtain ⟨a0, a1, a2, a3⟩ := hbx
        simp only at a0 a1 a2 a3
        go_wp2
        go_ret
        exact ⟨rfl, hkp.bel⟩
  · have hne : (mapRight l != 0) = true := by simp [h0]
    clear h0
    go_enter Try.func6, Try.ntmps6
    go_wp2_with fail
    refine (plainLives_any _).mono ?_
    rintro e w1 ⟨rfl, hb1⟩
    have kk1 := Kp.of hb1
    clear hb1
    go_wp2_with fail
    refine (HCK.out _ _ (HR.out.kp (by (focus ((repeat (first | (with_reducible assumption) | (with_reducible exact Kp.refl _) | (with_reducible apply Kp.drew) | (with_reducible apply Kp.drewN) | (with_reducible apply Kp.alloc) | ((with_reducible apply Kp.callK); (with_reducible assumption)))); done))))).mono ?_
    rintro e w2 ⟨rfl, hb2⟩
    have kk2 := Kp.of hb2
    clear hb2
    go_wp2_with fail
    refine (plainLives_any _).mono ?_
    rintro e w3 ⟨rfl, hb3⟩
    have kk3 := Kp.of hb3
    clear hb3
    go_wp2
    go_ret
    exact ⟨rfl, Kp.bel (by (focus ((repeat (first | (with_reducible assumption) | (with_reducible exact Kp.refl _) | (with_reducible apply Kp.drew) | (with_reducible apply Kp.drewN) | (with_reducible apply Kp.alloc) | ((with_reducible apply Kp.callK); (with_reducible assumption)))); done)))⟩
end Go.Proofs.Ytkfgpoeodpndlaa
