/-
  An argument that is a slice of slices of deeds, or a deed, opened. Conditions: none.
  hedgref.KeySet: ten truths. Conditions: the list reads as it is named (RD).
  hedgkeep.HandsAlone: it answers true. Conditions: the list reads as it is named (RD).
  hedgkeep.HandsAlone: THE STATEMENT: for every input it answers true. Conditions: none.
-/
import Derived.Test.YtoihdnekkgpcoaaG1
import Derived.Test.YtoihdnekkgpcoaaG6
import Derived.Test.YtoihdnekkgpcoaaG5
import Derived.Test.YtoihdnekkgpcoaaG16

namespace Go.Proofs.Ytoihdnekkgpcoaa
open Go.ChangeShapes Go.WideShapes Go.ChangeAt Go.RowKit Go.Deep
set_option linter.unusedVariables false
set_option linter.unusedSimpArgs false

theorem RD.dd {w : World} {v : Value} {l : List IP} (h : RD w ePair v l) : RD w eDeed v (l.map fun p => (⟨p.1, p.2⟩ : Dd)) := by
  obtain ⟨A, c, rfl, h1, h2, h3, h4⟩ := h
  refine ⟨A, c, by simp, by simpa using h1, h2, h3, fun h0 => ?_⟩
  simp only [List.length_map] at h0
  obtain ⟨b, o, rfl, hb, hc⟩ := h4 h0
  refine ⟨b, o, rfl, hb, fun k hk j hj => ?_⟩
  simp only [List.length_map] at hk
  have := hc k hk j hj
  simp only [List.getElem_map]
  exact this
section
variable {H : Type} {enc : TypeId × Value → H} {P : Program} {w : World} {base : Nat} {spare : Nat → Bool} {held : Bool}
theorem rd_deeds {t e d : TypeId} {f0 f1 : Field} {fuel : Nat} {cs : List Value} {x : DataW H × List MemPlace} (ht : P.underlying t = some (.slice e)) (hC1 : P.cellsOf e = 1) (he : P.underlying e = some (.slice d)) (hd : P.underlying d = some (.struct #[f0, f1]))
    (hone : oneCellFields P #[f0, f1] = true) (hC : P.cellsOf d = 2) (h0 : P.underlying f0.type = some (.int .i64)) (h1 : P.underlying f1.type = some (.int .i64)) (h : DataW.trod enc P w base spare held fuel t cs = some x) :
    ∃ v, cs = [v] ∧ ∃ ls : List (List Dd), RDS w eDeed v ls := by
  rcases open_slice1 ht hC1 h with ⟨rfl, _⟩ | ⟨a, len, cap, m, n, V, D, Pl, rfl, hb, hl, hm, hmm, _, hf⟩
  · exact ⟨_, rfl, [], none, 0, rfl, Nat.le_refl _, by decide, fun h => absurd h (Nat.lt_irrefl _)⟩
  · refine ⟨_, rfl, ?_⟩
    have hlm : len ≤ m := by rw [hmm]; split <;> omega
    have hq : ∀ i, ∃ l : List Dd, i < len → w.cell? (a.add i) = some (V i) ∧ RD w eDeed (V i) l := by
      intro i
      by_cases hi : i < len
      · obtain ⟨hc, ht2⟩ := hf i (by omega)
        obtain ⟨v, hv, l, hr⟩ := rd_pairs he hd hone hC h0 h1 ht2
        injection hv with hv _
        subst hv
        exact ⟨_, fun _ => ⟨hc, hr.dd⟩⟩
      · exact ⟨[], fun h => absurd h hi⟩
    obtain ⟨f, hf2⟩ := Classical.axiomOfChoice hq
    refine ⟨(List.range len).map f, some a, cap, by simp, by simpa using hl, hm, fun hpos => ?_⟩
    simp only [List.length_map, List.length_range] at hpos
    obtain ⟨c0, _⟩ := hf2 0 hpos
    have ha0 : a.add 0 = a := by simp [Addr.add]
    rw [ha0] at c0
    obtain ⟨b, o, sp⟩ := a
    have hsp : sp = none := World.cell?_spot c0
    subst hsp
    refine ⟨b, o, rfl, World.block_lt_of_cell? w _ c0, fun k hk => ?_⟩
    simp only [List.length_map, List.length_range] at hk
    obtain ⟨d0, d1⟩ := hf2 k hk
    have hadd : ∀ i, (⟨b, o, none⟩ : Addr).add i = ⟨b, o + i, none⟩ := fun i => by unfold Addr.add; split <;> simp_all
    rw [hadd] at d0
    refine ⟨_, d0, ?_⟩
    simp only [List.getElem_map, List.getElem_range]
    exact d1
theorem rd_two {r : Reach} {b0 : Nat} {t : TypeId} {f0 f1 : Field} {v : Value} {d : DataW H} {p : List MemPlace} (hs : P.underlying t = some (.struct #[f0, f1])) (hone : oneCellFields P #[f0, f1] = true) (hC : P.cellsOf t = 2)
    (h0 : P.underlying f0.type = some (.int .i64)) (h1 : P.underlying f1.type = some (.int .i64)) (hv : Value.okWide P w r b0 t v) (h : DataW.Trod enc P w base spare held t v d p) :
    ∃ a b : Int, v = .agg #[.int .i64 a, .int .i64 b] := by
  obtain ⟨v0, v1, y0, y1, n, rfl, _, _, t0, t1⟩ := Go.Joins.open_agg2 hs hone hC hv h
  obtain ⟨n0, e0, _⟩ := DataW.trod_int h0 t0
  obtain ⟨n1, e1, _⟩ := DataW.trod_int h1 t1
  injection e0 with e0
  injection e1 with e1
  subst e0 e1
  exact ⟨_, _, rfl⟩
end
section
variable {H : Type} {enc : TypeId × Value → H} {w : World} {base : Nat} {spare : Nat → Bool} {held : Bool} {a0 : Option Addr} {n c : Nat} {d : DataW H} {p : List MemPlace}
set_option maxRecDepth 100000 in
theorem arg_deeds (h : DataW.Trod enc Try.prog w base spare held 25 (.slice a0 n c) d p) : ∃ ls, RDS w eDeed (.slice a0 n c) ls := by
  obtain ⟨fuel, hf⟩ := h
  obtain ⟨v, hv, l, hl⟩ := rd_deeds Try.underlying25 (by kernel_rfl) Try.underlying24 Try.underlying23 (by kernel_rfl) (by kernel_rfl) Try.underlying3 Try.underlying3 hf
  simp [Value.cells] at hv
  subst hv
  exact ⟨l, hl⟩
set_option maxRecDepth 100000 in
theorem arg_deed {r : Reach} {b0 : Nat} {v : Value} (hv : Value.okWide Try.prog w r b0 23 v) (h : DataW.Trod enc Try.prog w base spare held 23 v d p) : ∃ x y : Int, v = .agg #[.int .i64 x, .int .i64 y] :=
  rd_two Try.underlying23 (by kernel_rfl) (by kernel_rfl) Try.underlying3 Try.underlying3 hv h
end
end Go.Proofs.Ytoihdnekkgpcoaa
namespace Go.Proofs.Ytoihdnekkgpcoaa
open Go.ChangeShapes Go.WideShapes Go.ChangeAt Go.RowKit
set_option linter.unusedVariables false
set_option linter.unusedSimpArgs false

/-- Of each key from 0 to 9: is it there? -/
def ksC (f : Int → Bool) : List Value := [.bool (f 0), .bool (f 1), .bool (f 2), .bool (f 3), .bool (f 4), .bool (f 5), .bool (f 6), .bool (f 7), .bool (f 8), .bool (f 9)]
def inF (l : List Int) : Int → Bool := fun x => decide (x ∈ l)
theorem ksC_eq (f : Int → Bool) : ksC f = (List.range 10).map (fun i : Nat => Value.bool (f (i : Int))) := rfl
theorem ksC_set (f g : Int → Bool) (k : Nat) (hk : k ≤ 9) (h1 : g k = true) (h2 : ∀ x : Int, x ≠ k → g x = f x) : (ksC f).set k (.bool true) = ksC g := by
  rw [ksC_eq, ksC_eq]
  apply List.ext_getElem?
  intro j
  simp only [List.getElem?_set, List.getElem?_map, List.length_map, List.length_range]
  by_cases e : k = j
  · subst e; simp [show k < 10 by omega, h1]
  · by_cases hj : j < 10
    · simp [e, hj, h2 (j : Int) (by omega)]
    · simp [e, hj]
theorem info_ten : (Try.prog.info? 38).map (·.size) = some 10 := by kernel_rfl
def KsRel (l : List Int) (w : World) (O R : Nat) (iv : Value) (wr : World) : Prop :=
  ∃ j : Nat, j ≤ l.length ∧ iv = .int .i64 j ∧ BC wr O 38 (ksC (inF (l.take j))) ∧ BC wr R 38 (ksC (inF [])) ∧ Kp w wr
set_option maxRecDepth 100000 in
set_option maxHeartbeats 4000000 in
theorem keySet_any (l : List Int) (v : Value) (w : World) (hl : RD w eInt v l) : Calls Try.prog 11 #[v] w (fun e w' => e = .returned (.agg (ksC (inF l)).toArray) ∧ Kp w w') := by
  obtain ⟨A, c, rfl, hc, _⟩ := hl.shape
  have HL := hide hl
  clear hl
  go_enter Try.func11, Try.ntmps11
  go_wp2
  obtain ⟨W, hW⟩ : ∃ W, W = (w.alloc (.cells #[.bool false, .bool false, .bool false, .bool false, .bool false, .bool false, .bool false, .bool false, .bool false, .bool false] 38)).alloc (.cells #[.bool false, .bool false, .bool false, .bool false, .bool false, .bool false, .bool false, .bool false, .bool false, .bool false] 38) := ⟨_, rfl⟩
  rw [← hW]
  have b0 : BC W w.heap.size 38 (ksC (inF [])) := by rw [hW]; exact (BC.new w 38 (ksC (inF []))).kp (Kp.refl _).alloc
  have b1 : BC W (w.heap.size + 1) 38 (ksC (inF [])) := by rw [hW]; have := BC.new (w.alloc (.cells #[.bool false, .bool false, .bool false, .bool false, .bool false, .bool false, .bool false, .bool false, .bool false, .bool false] 38)) 38 (ksC (inF [])); rw [show (w.alloc (.cells #[.bool false, .bool false, .bool false, .bool false, .bool false, .bool false, .bool false, .bool false, .bool false, .bool false] 38)).heap.size = w.heap.size + 1 by simp] at this; exact this
  have kW : Kp w W := by rw [hW]; exact (Kp.refl w).alloc.alloc
  obtain ⟨R, hR⟩ : ∃ R, R = w.heap.size := ⟨_, rfl⟩
  obtain ⟨O, hO⟩ : ∃ O, O = w.heap.size + 1 := ⟨_, rfl⟩
  have HRO := hide (And.intro hR hO)
  rw [← hR] at b0 ⊢
  rw [hR, ← hO] at ⊢
  rw [← hO] at b1
  rw [← hR]
  have HST : Hid (KsRel l w O R (.int .i64 0) W) := hide ⟨0, Nat.zero_le _, rfl, b1, b0, kW⟩
  clear hW b0 b1 kW hR hO
  go_loopw [8] (fun iv wx => KsRel l w O R iv wx) (fun iv _ => l.length - (intOf iv).toNat)
  case atStart => exact HST.out
  case round =>
    obtain ⟨j, hj, rfl, ho, hr, hkp⟩ := hrel
    by_cases hjl : j < l.length
    · obtain ⟨b, oo, e, _, x0⟩ := (HL.out.kp hkp).int hjl
      cases e
      have htk := List.take_succ_eq_append_getElem hjl
      obtain ⟨x, hx⟩ : ∃ x, x = l[j]'hjl := ⟨_, rfl⟩
      rw [← hx] at x0 htk
      have hmem : ∀ y, y ∈ l.take (j + 1) ↔ y ∈ l.take j ∨ y = x := fun y => by rw [htk, List.mem_append, List.mem_singleton]
      have HM := hide hmem
      have HO := hide ho
      have HR := hide hr
      have HK := hide hkp
      have HJ := hide hjl
      have hjli : (j : Int) < (l.length : Int) := by omega
      clear hx htk hmem
      rcases btw_cases x 0 9 with ⟨hb, hi⟩ | ⟨hb, hi⟩
      · obtain ⟨k, rfl⟩ : ∃ k : Nat, x = (k : Int) := ⟨x.toNat, by omega⟩
        have hk9 : k ≤ 9 := by omega
        have hki : (k : Int) < 10 := by omega
        have hko : (ksC (inF (l.take j)))[k]? = some (.bool (inF (l.take j) k)) := by
          rw [ksC_eq]; simp [show k < 10 by omega]
        have c0 : wr.cell? ⟨O, k, none⟩ = some (.bool (inF (l.take j) k)) := (ho.cell k).trans hko
        have f0 := ho.frozen k
        have hst := ksC_set (inF (l.take j)) (inF (l.take (j + 1))) k hk9 (by unfold inF; exact decide_eq_true ((HM.out _).2 (.inr rfl))) (fun y hy => by unfold inF; exact decide_eq_decide.2 ((HM.out y).trans ⟨fun h => h.elim id (fun h => absurd h hy), .inl⟩))
        have hne : R ≠ O := by have := HRO.out; omega
        have HN : Hid (KsRel l w O R (.int .i64 ((j + 1 : Nat) : Int)) (wr.setCell ⟨O, k, none⟩ (.bool true))) := hide ⟨j + 1, hjl, rfl, by rw [← hst]; exact ho.set, hr.far hne, hkp.set (p := ⟨O, k, none⟩) (show w.heap.size ≤ O by have := HRO.out; omega) _⟩
        have hk0 : (0 : Int) ≤ (k : Int) := by omega
        clear hst hne ho hr hkp hi hko
        go_wp2_with fail
        refine (between_any (k : Int) 0 9 _).mono ?_
        rintro e w2 ⟨rfl, rfl⟩
        rw [hb]
        go_wp2
        go_roundw
        case rel =>
          obtain ⟨k2, a1, a2, a3⟩ := HN.out
          exact ⟨k2, a1, by rw [← a2]; go_num, a3⟩
        case measure => simp [intOf]; have := HJ.out; omega
      · have HN : Hid (KsRel l w O R (.int .i64 ((j + 1 : Nat) : Int)) wr) := hide ⟨j + 1, hjl, rfl, by
          have e : ksC (inF (l.take (j + 1))) = ksC (inF (l.take j)) := by
            have e2 : ∀ y : Int, 0 ≤ y → y ≤ 9 → inF (l.take (j + 1)) y = inF (l.take j) y := fun y h1 h2 => by
              unfold inF; exact decide_eq_decide.2 ((HM.out y).trans ⟨fun h => h.elim id (fun h => by omega), .inl⟩)
            unfold ksC
            rw [e2 0 (by decide) (by decide), e2 1 (by decide) (by decide), e2 2 (by decide) (by decide), e2 3 (by decide) (by decide), e2 4 (by decide) (by decide), e2 5 (by decide) (by decide), e2 6 (by decide) (by decide), e2 7 (by decide) (by decide), e2 8 (by decide) (by decide), e2 9 (by decide) (by decide)]
          rw [e]; exact ho, hr, hkp⟩
        clear ho hr hkp hi
        go_wp2_with fail
        refine (between_any x 0 9 _).mono ?_
        rintro e w2 ⟨rfl, rfl⟩
        rw [hb]
        go_wp2
        go_roundw
        case rel =>
          obtain ⟨k2, a1, a2, a3⟩ := HN.out
          exact ⟨k2, a1, by rw [← a2]; go_num, a3⟩
        case measure => simp [intOf]; have := HJ.out; omega
    · rw [List.take_of_length_le (by omega)] at ho
      have HF : Hid (BC ((((((((((wr.setCell ⟨R, 0, none⟩ (.bool (inF l 0))).setCell ⟨R, 1, none⟩ (.bool (inF l 1))).setCell ⟨R, 2, none⟩ (.bool (inF l 2))).setCell ⟨R, 3, none⟩ (.bool (inF l 3))).setCell ⟨R, 4, none⟩ (.bool (inF l 4))).setCell ⟨R, 5, none⟩ (.bool (inF l 5))).setCell ⟨R, 6, none⟩ (.bool (inF l 6))).setCell ⟨R, 7, none⟩ (.bool (inF l 7))).setCell ⟨R, 8, none⟩ (.bool (inF l 8))).setCell ⟨R, 9, none⟩ (.bool (inF l 9))) R 38 (ksC (inF l)) ∧ Kp w ((((((((((wr.setCell ⟨R, 0, none⟩ (.bool (inF l 0))).setCell ⟨R, 1, none⟩ (.bool (inF l 1))).setCell ⟨R, 2, none⟩ (.bool (inF l 2))).setCell ⟨R, 3, none⟩ (.bool (inF l 3))).setCell ⟨R, 4, none⟩ (.bool (inF l 4))).setCell ⟨R, 5, none⟩ (.bool (inF l 5))).setCell ⟨R, 6, none⟩ (.bool (inF l 6))).setCell ⟨R, 7, none⟩ (.bool (inF l 7))).setCell ⟨R, 8, none⟩ (.bool (inF l 8))).setCell ⟨R, 9, none⟩ (.bool (inF l 9)))) := by
        have hz := HRO.out
        exact hide ⟨((((((((((hr.set (j := 0) (u := .bool (inF l 0))).set (j := 1) (u := .bool (inF l 1))).set (j := 2) (u := .bool (inF l 2))).set (j := 3) (u := .bool (inF l 3))).set (j := 4) (u := .bool (inF l 4))).set (j := 5) (u := .bool (inF l 5))).set (j := 6) (u := .bool (inF l 6))).set (j := 7) (u := .bool (inF l 7))).set (j := 8) (u := .bool (inF l 8))).set (j := 9) (u := .bool (inF l 9))), (Kp.set (p := ⟨R, 9, none⟩) (Kp.set (p := ⟨R, 8, none⟩) (Kp.set (p := ⟨R, 7, none⟩) (Kp.set (p := ⟨R, 6, none⟩) (Kp.set (p := ⟨R, 5, none⟩) (Kp.set (p := ⟨R, 4, none⟩) (Kp.set (p := ⟨R, 3, none⟩) (Kp.set (p := ⟨R, 2, none⟩) (Kp.set (p := ⟨R, 1, none⟩) (Kp.set (p := ⟨R, 0, none⟩) hkp (show w.heap.size ≤ R by omega) (.bool (inF l 0))) (show w.heap.size ≤ R by omega) (.bool (inF l 1))) (show w.heap.size ≤ R by omega) (.bool (inF l 2))) (show w.heap.size ≤ R by omega) (.bool (inF l 3))) (show w.heap.size ≤ R by omega) (.bool (inF l 4))) (show w.heap.size ≤ R by omega) (.bool (inF l 5))) (show w.heap.size ≤ R by omega) (.bool (inF l 6))) (show w.heap.size ≤ R by omega) (.bool (inF l 7))) (show w.heap.size ≤ R by omega) (.bool (inF l 8))) (show w.heap.size ≤ R by omega) (.bool (inF l 9)))⟩
      have hjli : ¬ (j : Int) < (l.length : Int) := by omega
      have hne : ¬ R = O := by have := HRO.out; omega
      have x0 : wr.cell? ⟨O, 0, none⟩ = some (.bool (inF l 0)) := ho.cell 0
      have y0 : wr.cell? ⟨R, 0, none⟩ = some (.bool (inF [] 0)) := hr.cell 0
      have g0 := hr.frozen 0
      have x1 : wr.cell? ⟨O, 1, none⟩ = some (.bool (inF l 1)) := ho.cell 1
      have y1 : wr.cell? ⟨R, 1, none⟩ = some (.bool (inF [] 1)) := hr.cell 1
      have g1 := hr.frozen 1
      have x2 : wr.cell? ⟨O, 2, none⟩ = some (.bool (inF l 2)) := ho.cell 2
      have y2 : wr.cell? ⟨R, 2, none⟩ = some (.bool (inF [] 2)) := hr.cell 2
      have g2 := hr.frozen 2
      have x3 : wr.cell? ⟨O, 3, none⟩ = some (.bool (inF l 3)) := ho.cell 3
      have y3 : wr.cell? ⟨R, 3, none⟩ = some (.bool (inF [] 3)) := hr.cell 3
      have g3 := hr.frozen 3
      have x4 : wr.cell? ⟨O, 4, none⟩ = some (.bool (inF l 4)) := ho.cell 4
      have y4 : wr.cell? ⟨R, 4, none⟩ = some (.bool (inF [] 4)) := hr.cell 4
      have g4 := hr.frozen 4
      have x5 : wr.cell? ⟨O, 5, none⟩ = some (.bool (inF l 5)) := ho.cell 5
      have y5 : wr.cell? ⟨R, 5, none⟩ = some (.bool (inF [] 5)) := hr.cell 5
      have g5 := hr.frozen 5
      have x6 : wr.cell? ⟨O, 6, none⟩ = some (.bool (inF l 6)) := ho.cell 6
      have y6 : wr.cell? ⟨R, 6, none⟩ = some (.bool (inF [] 6)) := hr.cell 6
      have g6 := hr.frozen 6
      have x7 : wr.cell? ⟨O, 7, none⟩ = some (.bool (inF l 7)) := ho.cell 7
      have y7 : wr.cell? ⟨R, 7, none⟩ = some (.bool (inF [] 7)) := hr.cell 7
      have g7 := hr.frozen 7
      have x8 : wr.cell? ⟨O, 8, none⟩ = some (.bool (inF l 8)) := ho.cell 8
      have y8 : wr.cell? ⟨R, 8, none⟩ = some (.bool (inF [] 8)) := hr.cell 8
      have g8 := hr.frozen 8
      have x9 : wr.cell? ⟨O, 9, none⟩ = some (.bool (inF l 9)) := ho.cell 9
      have y9 : wr.cell? ⟨R, 9, none⟩ = some (.bool (inF [] 9)) := hr.cell 9
      have g9 := hr.frozen 9
      clear ho hr hkp hjl
      go_wp2
      refine bodyPost_ret (v := .agg (ksC (inF l)).toArray) ?_ ?_ ⟨rfl, HF.out.2⟩
      · exact results_cell_row rfl _ _ R 38 _ (0, 0) _ rfl HF.out.1 Try.underlying38 rfl info_ten
      · rfl
end Go.Proofs.Ytoihdnekkgpcoaa
namespace Go.Proofs.Ytoihdnekkgpcoaa
open Go.ChangeShapes Go.WideShapes Go.ChangeAt Go.RowKit
set_option linter.unusedVariables false
set_option linter.unusedSimpArgs false

theorem OkIn.len10 {l : List Int} {P : List (List Dd)} (ok : OkIn l P) : l.length ≤ 10 := by
  have h1 := (mm0_MW l ok.keys ok.sort)
  have hk : ∀ i (h : i < l.length), (mm0 l).ky (i + 1) = l[i] := fun i h => by simp [mm0, h]
  have key : ∀ i, i < l.length → (i : Int) ≤ (mm0 l).ky (i + 1) := by
    intro i
    induction i with
    | zero => intro hi; have := ok.keys _ (List.getElem_mem hi); rw [hk 0 hi]; omega
    | succ i ih =>
      intro hi
      have h2 := ih (by omega)
      have h4 : (mm0 l).nx (i + 1) = i + 1 + 1 := by simp [mm0]; omega
      have h3 := h1.ri (i + 1) (by show i + 1 < l.length + 2; omega) (by rw [hk i (by omega)]; have := (ok.keys _ (List.getElem_mem (show i < l.length by omega))).2; omega)
      rw [h4] at h3
      omega
  by_cases h0 : l.length = 0
  · omega
  · have h2 := key (l.length - 1) (by omega)
    rw [hk _ (by omega)] at h2
    have := (ok.keys _ (List.getElem_mem (show l.length - 1 < l.length by omega))).2
    omega
theorem lives_kp (w : World) : Calls Try.prog 10 #[] w (fun e w' => e = .returned (.bool true) ∧ Kp w w') := (hlives_any w).mono fun e w' h => ⟨h.1, Kp.of h.2⟩
theorem run_ix10 (f : Int → Bool) (k : Int) (h : 0 ≤ k ∧ k ≤ 9) (w : World) : (Instr.index 38 (.agg (ksC f).toArray) (.int .i64 k)).run Try.prog w = .ok (.bool (f k)) w := by
  have c : k = 0 ∨ k = 1 ∨ k = 2 ∨ k = 3 ∨ k = 4 ∨ k = 5 ∨ k = 6 ∨ k = 7 ∨ k = 8 ∨ k = 9 := by omega
  rcases c with rfl | rfl | rfl | rfl | rfl | rfl | rfl | rfl | rfl | rfl <;> simp [Instr.index, run_underlying Try.underlying38, asIntOf, go_sem, ksC]
set_option maxRecDepth 100000 in
set_option maxHeartbeats 4000000 in
theorem handsAlone_walk (algo : Int) (l : List Int) (kd ky : Int) (v : Value) (w : World) (hn : -9223372036854775808 ≤ algo ∧ algo ≤ 9223372036854775807) (hl : RD w eInt v l) :
    Calls Try.prog 5 #[.int .i64 algo, v, .agg #[.int .i64 kd, .int .i64 ky]] w (Ret (.bool true) w) := by
  obtain ⟨A1, c1, rfl, hc1, _⟩ := hl.shape
  obtain ⟨W, hW⟩ : ∃ W, W = ((w.alloc (.cells #[.int .i64 kd, .int .i64 ky] 23)).alloc (.cells #[.int .i64 kd, .int .i64 ky] 23)).alloc (.cells #[.slice (some ⟨w.heap.size + 1, 0, none⟩) 1 1] 24) := ⟨_, rfl⟩
  have kW : Kp w W := by rw [hW]; exact (Kp.refl w).alloc.alloc.alloc
  have b0 : BC W w.heap.size 23 [.int .i64 kd, .int .i64 ky] := by rw [hW]; exact BC.made [.cells #[.int .i64 kd, .int .i64 ky] 23, .cells #[.int .i64 kd, .int .i64 ky] 23, .cells #[.slice (some ⟨w.heap.size + 1, 0, none⟩) 1 1] 24] w 0 rfl
  have b1 : BC W (w.heap.size + 1) 23 [.int .i64 kd, .int .i64 ky] := by rw [hW]; exact BC.made [.cells #[.int .i64 kd, .int .i64 ky] 23, .cells #[.int .i64 kd, .int .i64 ky] 23, .cells #[.slice (some ⟨w.heap.size + 1, 0, none⟩) 1 1] 24] w 1 rfl
  have b2 : BC W (w.heap.size + 1 + 1) 24 [.slice (some ⟨w.heap.size + 1, 0, none⟩) 1 1] := by rw [hW]; exact BC.made [.cells #[.int .i64 kd, .int .i64 ky] 23, .cells #[.int .i64 kd, .int .i64 ky] 23, .cells #[.slice (some ⟨w.heap.size + 1, 0, none⟩) 1 1] 24] w 2 rfl
  have hp : RDS W eDeed (.slice (some ⟨w.heap.size + 1 + 1, 0, none⟩) 1 1) [[⟨kd, ky⟩]] := by
    refine ⟨_, _, rfl, Nat.le_refl _, by simp [maxLen], fun _ => ⟨_, 0, rfl, b2.lt, fun k hk => ?_⟩⟩
    have : k = 0 := by simp at hk; omega
    subst this
    exact ⟨_, b2.cell 0, RD.block (l := [(⟨kd, ky⟩ : Dd)]) b1 rfl (by simp [maxLen])⟩
  have HL := hide hl
  have HKW := hide kW
  have HB0 := hide b0
  have HWE := hide hW
  by_cases hr : rgF algo l [[⟨kd, ky⟩]] 0 = 0
  · obtain ⟨h14, _, ok⟩ := rgF_ok hr
    have hal : algo = ((algo.toNat : Nat) : Int) := by omega
    have hl10 := ok.len10
    have hok := ok.deeds [⟨kd, ky⟩] (by simp) ⟨kd, ky⟩ (by simp)
    have hRun := hrun_any algo.toNat l [[⟨kd, ky⟩]] [] _ _ (.slice none 0 0) W (hl.kp kW) hp RD.nil (by rw [← hal]; exact hr)
    rw [← hal] at hRun
    obtain ⟨I, hI⟩ : ∃ I, I = ansD l ⟨kd, ky⟩ := ⟨_, rfl⟩
    have HRun : Hid (Calls Try.prog 9 #[.int .i64 algo, .slice A1 l.length c1, .slice (some ⟨w.heap.size + 1 + 1, 0, none⟩) 1 1, .slice none 0 0] W (fun e w' => ∃ (f : Nat) (vd vl : Value) (lf : List Int), e = .returned (.tuple #[.agg #[vd, vl], .int .i64 0]) ∧ f < 3 * l.length + 8 ∧ RD w' eDone vd [(0, 0, ⟨0, f, I⟩)] ∧ RD w' eInt vl lf ∧ Kp W w')) := hide (hRun.mono (by
      rintro e w' ⟨s, vd, vl, rfl, hf, h1, h2, hk⟩
      obtain ⟨f, hf1, hf2⟩ := solo_all ok hok algo.toNat (by omega) s hf
      have e1 : doneL s 1 = [(0, 0, ⟨0, f, I⟩)] := by
        show ([0] : List Nat).flatMap _ = _
        simp only [List.flatMap_cons, List.flatMap_nil, List.append_nil, hf2, hI]
        rfl
      have h1 : RD w' eDone vd (doneL s 1) := h1
      rw [e1] at h1
      exact ⟨f, vd, vl, _, rfl, hf1, h1, h2, hk⟩))
    have hix : ∀ W, (Instr.index 38 (.agg (ksC (inF l)).toArray) (.int .i64 ky)).run Try.prog W = .ok (.bool (inF l ky)) W := fun W => run_ix10 (inF l) ky ⟨hok.1, hok.2.1⟩ W
    have HKS := hide (fun W k => keySet_any l (.slice A1 l.length c1) W (hl.kp k))
    have hIX : ((inF l ky) == (kd != 1)) = I := by
      rw [hI]; unfold ansD inF
      congr 1
      by_cases e : kd = 1 <;> simp [e]
    obtain ⟨KS, hKS⟩ : ∃ K, K = (ksC (inF l)).toArray := ⟨_, rfl⟩
    obtain ⟨X, hX⟩ : ∃ X, X = inF l ky := ⟨_, rfl⟩
    rw [← hKS] at hix HKS
    rw [← hX] at hix hIX
    clear hRun hr ok hok hI hKS hX hp b0 b1 b2 hW hl kW hal
    go_enter Try.func5, Try.ntmps5
    go_wp2_with fail
    rw [← HWE.out]
    refine HRun.out.mono ?_
    rintro e w1 ⟨f, vd, vl, lf, rfl, hf, hd, hlf, hk⟩
    obtain ⟨dA, dC, rfl, hdc, _⟩ := hd.shape
    obtain ⟨lA, lC, rfl, hlc, _⟩ := hlf.shape
    obtain ⟨b, o, rfl, _, _, _, _, x3, x4⟩ := hd.done (k := 0) (by simp)
    simp only [List.getElem_cons_zero, List.length_cons, List.length_nil, Nat.zero_mul, Nat.zero_add, Nat.add_zero] at x3 x4 hdc
    have HK1 := hide (HKW.out.trans hk)
    have hb0 := HB0.out.kp hk
    clear hd hlf hk HRun
    go_wp2_with fail
    have hq : BC (w1.alloc (.cells #[.slice (some ⟨b, o, none⟩) 1 dC, .slice lA lf.length lC] 29)) w1.heap.size 29 [.slice (some ⟨b, o, none⟩) 1 dC, .slice lA lf.length lC] := BC.new _ _ _
    have ka : Kp w1 (w1.alloc (.cells #[.slice (some ⟨b, o, none⟩) 1 dC, .slice lA lf.length lC] 29)) := (Kp.refl w1).alloc
    refine (lives_kp _).mono ?_
    rintro e w2 ⟨rfl, hk2⟩
    have hq2 := hq.kp hk2
    have q0 : w2.cell? ⟨w1.heap.size, 0, none⟩ = some (.slice (some ⟨b, o, none⟩) 1 dC) := hq2.cell 0
    have x3 := (ka.trans hk2).cell x3
    have x4 := (ka.trans hk2).cell x4
    have hb2 := hb0.kp (ka.trans hk2)
    have z0 : w2.cell? ⟨w.heap.size, 0, none⟩ = some (.int .i64 kd) := hb2.cell 0
    have z1 : w2.cell? ⟨w.heap.size, 1, none⟩ = some (.int .i64 ky) := hb2.cell 1
    have HK2 := hide (HK1.out.trans (ka.trans hk2))
    obtain ⟨Z, hZ⟩ : ∃ Z, Z = w1.heap.size := ⟨_, rfl⟩
    obtain ⟨D0, hD0⟩ : ∃ Z, Z = w.heap.size := ⟨_, rfl⟩
    rw [← hZ] at q0 ⊢
    rw [← hD0] at z0 z1 ⊢
    clear hq hq2 hk2 ka hZ hD0 hb0 hb2
    go_upto_region 4 with fail
    have HF : Hid (∀ w3, Kp w2 w3 → w3.cell? ⟨Z, 0, none⟩ = some (.slice (some ⟨b, o, none⟩) 1 dC) ∧ w3.cell? ⟨b, o + 3, none⟩ = some (.int .i64 f) ∧ w3.cell? ⟨b, o + 4, none⟩ = some (.bool I) ∧ w3.cell? ⟨D0, 0, none⟩ = some (.int .i64 kd) ∧ w3.cell? ⟨D0, 1, none⟩ = some (.int .i64 ky)) := hide (fun w3 k => ⟨k.cell q0, k.cell x3, k.cell x4, k.cell z0, k.cell z1⟩)
    go_region_law ((refine step_gocall (f := 11) (args := #[.slice A1 l.length c1]) rfl (by simp [execOp, resolve, Act.eval, go_sem]) (HKS.out _ (HK2.out.trans (by (focus ((repeat (first | (with_reducible assumption) | (with_reducible exact Kp.refl _) | (with_reducible apply Kp.drew) | (with_reducible apply Kp.drewN) | ((with_reducible apply Kp.setR); (focus (first | (with_reducible assumption) | (simp; done) | (simp; omega)))) | (with_reducible apply Kp.alloc) | ((with_reducible apply Kp.call); (with_reducible assumption)) | ((with_reducible apply Kp.app); (with_reducible assumption)))); done))))) ?_); (rintro _ w3 ⟨rfl, hb3⟩); (refine ⟨_, rfl, ?_⟩); (have k3 : Kp w2 w3 := Kp.trans (by (focus ((repeat (first | (with_reducible assumption) | (with_reducible exact Kp.refl _) | (with_reducible apply Kp.drew) | (with_reducible apply Kp.drewN) | ((with_reducible apply Kp.setR); (focus (first | (with_reducible assumption) | (simp; done) | (simp; omega)))) | (with_reducible apply Kp.alloc) | ((with_reducible apply Kp.call); (with_reducible assumption)) | ((with_reducible apply Kp.app); (with_reducible assumption)))); done))) hb3); (obtain ⟨q01, x31, x41, z01, z11⟩ := HF.out _ k3))
    all_goals
      have HK3 := hide (HK2.out.trans k3)
      have d1 : decide ((0 : Int) ≤ (f : Int)) = true := decide_eq_true (by omega)
      obtain ⟨M1, hM1⟩ : ∃ M : Int, M = 3 * (l.length : Int) := ⟨_, rfl⟩
      have s1 : IntKind.i64.wrap (3 * (l.length : Int)) = M1 := by rw [hM1]; exact IntWalk.i64_in _ (by omega)
      obtain ⟨M2, hM2⟩ : ∃ M : Int, M = M1 + 8 := ⟨_, rfl⟩
      have s2 : IntKind.i64.wrap (M1 + 8) = M2 := by rw [hM2]; exact IntWalk.i64_in _ (by omega)
      have d2 : decide ((f : Int) < M2) = true := decide_eq_true (by omega)
      clear HF q0 x3 x4 z0 z1 k3 hb3 hM1 hM2 hf hix HKS hdc hlc hc1
      generalize w3 = w4 at *
      go_wp2_with fail
      go_quiet (fail)
      go_wp2
      go_ret
      exact ⟨rfl, (HK3.out.trans ((Kp.refl _).drewN)).bel⟩
  · have HRun := hide (hrun_bad algo l [[⟨kd, ky⟩]] [] _ _ (.slice none 0 0) W (hl.kp kW) hp RD.nil hr)
    obtain ⟨R, hR⟩ : ∃ R, R = rgF algo l [[⟨kd, ky⟩]] 0 := ⟨_, rfl⟩
    have e0 : ([] : List Int).length = 0 := rfl
    rw [e0, ← hR] at HRun
    rw [← hR] at hr
    have d1 : (R != 0) = true := by simpa using hr
    clear hr hR hp b0 b1 b2 hW hl kW
    go_enter Try.func5, Try.ntmps5
    go_wp2_with fail
    rw [← HWE.out]
    refine HRun.out.mono ?_
    rintro e w1 ⟨rfl, hk⟩
    have HK1 := hide (HKW.out.trans hk)
    clear hk HRun
    go_wp2_with fail
    refine (lives_kp _).mono ?_
    rintro e w2 ⟨rfl, hk2⟩
    have HK2 := hide (HK1.out.trans ((Kp.refl w1).alloc.trans hk2))
    clear hk2
    go_wp2_with fail
    refine (lives_kp _).mono ?_
    rintro e w3 ⟨rfl, hk3⟩
    have HK3 := hide (HK2.out.trans hk3)
    clear hk3
    go_wp2
    go_ret
    exact ⟨rfl, HK3.out.bel⟩
end Go.Proofs.Ytoihdnekkgpcoaa
namespace Go.Proofs.Ytoihdnekkgpcoaa
open Go.ChangeShapes Go.WideShapes Go.ChangeAt Go.RowKit Go.Deep
set_option linter.unusedVariables false
set_option linter.unusedSimpArgs false

set_option maxRecDepth 100000 in
theorem handsAlone_lifted (os : Os) (started : os.Started) (H : Type) (enc : TypeId × Value → H) :
    ReturnsInHanded {} Try.checked os 5 .any (Rows.handsAloneSpec.pre6 enc Try.prog Try.f5 Rows.handsAloneRow.domain false) (Rows.handsAloneSpec.post enc Try.prog Try.f5 false true false false) := by
  refine returnsInHanded_of_change (C := Try.checked) own started (by kernel_rfl) Try.func5
    (ChangeSpec.witness6 (enc := enc) (C := Try.checked) false ⟨#[], #[.int .i64 0, .slice none 0 0, .agg #[.int .i64 0, .int .i64 0]], []⟩ 8 (by kernel_rfl) (by kernel_rfl) (by kernel_rfl) (by kernel_rfl)) ?_
  intro W base args ds gs before hval0 hW hcnd _
  have hval : ∀ (j : Nat) t v, Try.f5.params[j]? = some t → args[j]? = some v → Value.okWide Try.prog W .any base t v := hval0
  have hW' := hW
  obtain ⟨p, q, hA0, hV, rfl, hfz, hnd⟩ := hW
  have hA : DataW.TrodAll enc Try.prog W 0 (fun _ => true) true Try.f5.params.toList args.toList ds p := hA0
  rw [Try.params5] at hA hval
  obtain ⟨v0, vs0, d0, ds0, p0, q0, hargs, rfl, rfl, h0, r0⟩ := trodAll_cons hA
  obtain ⟨v1, vs1, d1, ds1, p1, q1, rfl, rfl, rfl, h1, r1⟩ := trodAll_cons r0
  obtain ⟨v2, vs2, d2, ds2, p2, q2, rfl, rfl, rfl, h2, r2⟩ := trodAll_cons r1
  obtain ⟨rfl, rfl, rfl⟩ := trodAll_nil r2
  obtain rfl : args = #[v0, v1, v2] := by cases args; simp_all
  obtain ⟨rfl, rfl⟩ := trodVars_none hV
  obtain ⟨n0, rfl⟩ := okWide_int Try.underlying3 (hval 0 3 v0 rfl rfl)
  obtain ⟨a1, n1, c1, rfl⟩ := okWide_slice Try.underlying27 (hval 1 27 v1 rfl rfl)
  obtain ⟨x2, y2, rfl⟩ := arg_deed (hval 2 23 v2 rfl rfl) h2
  have lt0 : ∀ x ∈ p0, x.block < W.heap.size := by obtain ⟨m, hm⟩ := h0; exact DataW.trod_lt m _ _ _ hm
  have lt1 : ∀ x ∈ p1, x.block < W.heap.size := by obtain ⟨m, hm⟩ := h1; exact DataW.trod_lt m _ _ _ hm
  have lt2 : ∀ x ∈ p2, x.block < W.heap.size := by obtain ⟨m, hm⟩ := h2; exact DataW.trod_lt m _ _ _ hm
  have w0 : -9223372036854775808 ≤ n0 ∧ n0 ≤ 9223372036854775807 := by obtain ⟨m, hm⟩ := h0; exact wf_i64 Try.underlying3 hm
  obtain ⟨l1, w1⟩ := arg_ints h1
  clear hA0 hval0
  refine (handsAlone_walk n0 l1 x2 y2 _ W w0 w1).mono fun e W' ⟨he, bel⟩ => ?_
  subst he
  exact ⟨_, rfl, _, _, _, [], _, [], hW', trodAll_mk1 (shut_bool Try.underlying4 _), (trodAll_cons_mk (Below.trod laidOut (by kernel_rfl) (of_decide_eq_true (by kernel_rfl)) h0 bel lt0) (trodAll_cons_mk (Below.trod laidOut (by kernel_rfl) (of_decide_eq_true (by kernel_rfl)) h1 bel lt1) (trodAll_cons_mk (Below.trod laidOut (by kernel_rfl) (of_decide_eq_true (by kernel_rfl)) h2 bel lt2) trodAll_mk0))), rfl, bel.frame _, fun h => by cases h⟩

set_option maxRecDepth 100000 in
set_option maxHeartbeats 8000000 in
theorem handsAlone_closed : joinedFacts Try.checked.prog 5 Try.f5 Rows.handsAloneSpec Rows.handsAloneRow = true := by
  unfold joinedFacts
  repeat' (with_reducible refine and_true_of ?_ ?_)
  all_goals (as_aux_lemma => kernel_rfl)
theorem handsAlone_over : Rows.handsAloneRow.holds Try.pinned (OpenSpec.ofChange Rows.handsAloneSpec) :=
  OpenClaim.holds_of_wide 5 Try.f5 rfl rfl rfl rfl rfl rfl rfl ⟨rfl, rfl, rfl, rfl, rfl⟩ rfl rfl rfl rfl rfl (by as_aux_lemma => kernel_rfl) Try.func5 handsAlone_closed
    (of_decide_eq_true (by as_aux_lemma => kernel_rfl)) (by as_aux_lemma => unfold Func.isWrapper; first | (rw [if_pos (by decide +kernel)]; kernel_rfl) | (rw [if_neg (by decide +kernel)]; exact ⟨rfl, rfl⟩))
    (fun os started H enc _ => handsAlone_lifted os started H enc)
theorem handsAlone_proved : Rows.HandsAloneSaid := handsAlone_over
#print axioms handsAlone_proved
end Go.Proofs.Ytoihdnekkgpcoaa
