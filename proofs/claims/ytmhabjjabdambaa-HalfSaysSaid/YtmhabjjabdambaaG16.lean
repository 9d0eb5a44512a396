/-
  half.Ends: what it answers. Conditions: the list of keys reads as l (RD).
  hedgkeep.ok: what it answers. Conditions: the list reads as l (RD).
  hedgkeep.halfLives: it answers true. Conditions: none.
  slices.Equal at answers: of two that read as one list it answers true. Conditions: both read as l (RD).
  hedgref.MapKeys: what it answers. Conditions: the list reads as l (RD).
  slices.Clone at ints; the row of the ops. Conditions: the list reads as l (RD).
  hedgref.Reversed of ints: what it answers. Conditions: the list reads as it is named (RD).
  slices.Clone at ops: what it answers. Conditions: the lists read as they are named (RD).
  What half.Run keeps is a rising list of numbers that may be, with no more numbers than ops; behind them each one's next and prev asked. No program. Conditions: none.
  A number put and taken away, put twice: what half keeps and answers. No program. Conditions: none.
  hedgref.KeysRight, slices.Index, slices.Contains at int: what they answer. Conditions: the list reads as l (RD).
  What the bound of an Upto statement gives: a slice that is handed in is no longer than the bulk. Conditions: none.
  hedgkeep.putAll: what it answers. Conditions: the list reads as l (RD), not longer than a million.
-/
import Derived.Test.YtmhabjjabdambaaG11
import Derived.Test.YtmhabjjabdambaaG1
import Derived.Test.YtmhabjjabdambaaG15
import Derived.Test.YtmhabjjabdambaaG2

namespace Go.Proofs.Ytmhabjjabdambaa
open Go.ChangeShapes Go.WideShapes Go.ChangeAt Go.RowKit
set_option linter.unusedVariables false
set_option linter.unusedSimpArgs false

def insAll (l : List Int) : List Int := l.foldl insU []
theorem insAll_take (l : List Int) (k : Nat) (h : k < l.length) : insAll (l.take (k + 1)) = insU (insAll (l.take k)) l[k] := by
  rw [List.take_succ_eq_append_getElem h, insAll, List.foldl_append]; rfl
def inHalf (l : List Int) : Prop := ∀ x ∈ l, 0 ≤ x ∧ x ≤ 65535
instance (l : List Int) : Decidable (inHalf l) := by unfold inHalf; infer_instance
/-- The ends of keys: least, most, what went wrong. -/
def hEnds (l : List Int) : Int × Int × Int :=
  if l.length > 300 then (0, 0, 2) else if ¬ inHalf l then (0, 0, 3) else
    match (insAll l).head?, (insAll l).getLast? with
    | some a, some b => (a, b, 0)
    | _, _ => (0, 0, 4)
def Ret3I (r : Int × Int × Int) (w : World) (e : Ending) (w' : World) : Prop := e = .returned (.tuple #[.int .i64 r.1, .int .i64 r.2.1, .int .i64 r.2.2]) ∧ Kp w w'
def HeRel (l : List Int) (w : World) (b : Nat) (iv : Value) (wr : World) : Prop :=
  ∃ (k : Nat) (F : List Nat), k ≤ l.length ∧ iv = .int .i64 (k : Int) ∧ inHalf (l.take k) ∧ HR 57 4 wr (insAll (l.take k)) b F ∧ (∀ i ∈ F, w.heap.size ≤ i) ∧ Kp w wr
set_option maxRecDepth 100000 in
set_option maxHeartbeats 4000000 in
theorem hEnds_any (l : List Int) (v : Value) (w : World) (hr : RD w eInt v l) : Calls Try.prog 8 #[v] w (Ret3I (hEnds l) w) := by
  obtain ⟨A, c, rfl, hc, hm⟩ := hr.shape
  have HRD0 := hide hr
  clear hr
  by_cases hlen : l.length > 300
  · have H1 : Hid (hEnds l = (0, 0, 2)) := hide (by rw [hEnds, if_pos hlen])
    go_enter Try.func8, Try.ntmps8
    go_wp2
    go_ret3
    exact ⟨by rw [H1.out]; rfl, Kp.refl _⟩
  · have HBAD : Hid (¬ inHalf l → hEnds l = (0, 0, 3)) := hide (fun h => by rw [hEnds, if_neg hlen, if_pos h])
    have HGOOD : Hid (inHalf l → hEnds l = match (insAll l).head?, (insAll l).getLast? with | some a, some b => (a, b, 0) | _, _ => (0, 0, 4)) := hide (fun h => by rw [hEnds, if_neg hlen, if_neg (not_not_intro h)])
    go_enter Try.func8, Try.ntmps8
    go_wp2_with fail
    with_reducible refine (hmade_any 16 w).mono ?_
    rintro e w1 ⟨rfl, hw1⟩
    have hnew : HR 57 4 w1 [] w.heap.size [w.heap.size] := by
      refine HR.new 4 ?_
      rw [hw1]; exact BC.new w 57 (newC 4)
    have kk1 : Kp w w1 := by rw [hw1]; exact (Kp.refl w).alloc
    have HREL : Hid (HeRel l w w.heap.size (.int .i64 0) w1) := hide ⟨0, _, by omega, rfl, by simp [inHalf], hnew, by simp, kk1⟩
    clear hnew kk1 hw1
    go_wp2
    go_loopw [14] (HeRel l w w.heap.size) (fun i _ => l.length - (intOf i).toNat)
    case atStart => exact HREL.out
    case round =>
      clear HREL
      obtain ⟨k, F, hk, rfl, hin, hhr, hF, hkp⟩ := hrel
      have HHR := hide hhr
      have HKP := hide hkp
      have HFB := hide hF
      have HIN := hide hin
      by_cases hlt : k < l.length
      · obtain ⟨b, o, rfl, _, x0⟩ := (HRD0.out.kp hkp).int hlt
        obtain ⟨y, hy⟩ : ∃ y, y = l[k] := ⟨_, rfl⟩
        rw [← hy] at x0
        have HY := hide hy
        clear hin hhr hF hkp
        by_cases k3 : y < 0
        · have t3 : decide (y < 0) = true := decide_eq_true k3
          have H3 : Hid (hEnds l = (0, 0, 3)) := hide (HBAD.out fun h => by have := (h l[k] (List.getElem_mem _)).1; omega)
          clear k3 hy
          go_wp2
          go_ret3
          exact ⟨by rw [H3.out]; rfl, HKP.out⟩
        · have t3 : decide (y < 0) = false := decide_eq_false k3
          by_cases k4 : 65535 < y
          · have t4 : decide (65535 < y) = true := decide_eq_true k4
            have H3 : Hid (hEnds l = (0, 0, 3)) := hide (HBAD.out fun h => by have := (h l[k] (List.getElem_mem _)).2; omega)
            clear k3 k4 hy
            go_wp2
            go_ret3
            exact ⟨by rw [H3.out]; rfl, HKP.out⟩
          · have t4 : decide (65535 < y) = false := decide_eq_false k4
            have HST : Hid (insAll (l.take (k + 1)) = insU (insAll (l.take k)) y) := hide (by rw [insAll_take l k hlt, hy])
            have HIN2 : Hid (inHalf (l.take (k + 1))) := hide (fun x hx => by
              rw [List.take_succ_eq_append_getElem hlt, List.mem_append, List.mem_singleton] at hx
              rcases hx with hx | hx
              · exact HIN.out x hx
              · omega)
            have HK3 := hide k3
            have HK4 := hide k4
            clear k3 k4 hy
            go_wp2_with fail
            with_reducible refine (hput_any 4 (by decide) _ _ F y wr HHR.out (by have := HK3.out; omega) (by rw [UU_4]; have := HK4.out; omega)).mono ?_
            rintro e w2 ⟨rfl, F2, hr2, hF2, hk2⟩
            have HR2 := hide hr2
            have HKP2 : Hid (Kp w w2) := hide (Kf.kp hk2 HKP.out HFB.out)
            have HFB2 : Hid (∀ i ∈ F2, w.heap.size ≤ i) := hide (fun i hi => by
              rcases hF2 i hi with h | h
              · exact HFB.out i h
              · have := HKP.out.size; omega)
            clear hr2 hF2 hk2
            go_wp2
            go_roundw
            case rel => exact ⟨k + 1, F2, by omega, by go_num, HIN2.out, by rw [HST.out]; exact HR2.out, HFB2.out, HKP2.out⟩
            case measure => simp [intOf] <;> omega
      · have hkl : l.take k = l := List.take_of_length_le (by omega)
        rw [hkl] at HHR HIN
        have HG := hide (HGOOD.out HIN.out)
        obtain ⟨S, hS⟩ : ∃ S, S = insAll l := ⟨_, rfl⟩
        rw [← hS] at HHR HG
        obtain ⟨an, le, mo, mv, hv, hb, hc0⟩ := HHR.out.hb
        have c1 := hc0.cell 1
        have c2 := hc0.cell 2
        have c3 := hc0.cell 3
        simp only [hC, List.getElem?_cons_zero, List.getElem?_cons_succ] at c1 c2 c3
        clear hhr hF hkp hin hkl hS
        cases an with
        | false =>
          have hS := hb.no
          subst hS
          have HG : Hid (hEnds l = (0, 0, 4)) := hide HG.out
          clear hb hc0
          go_wp2
          go_ret3
          exact ⟨by rw [HG.out]; rfl, HKP.out⟩
        | true =>
          have hfa := hb.first_at
          rw [← List.head?_eq_getElem?] at hfa
          have HG : Hid (hEnds l = (le, mo, 0)) := hide (by rw [HG.out, hfa.1, hfa.2.2])
          clear hb hc0 hfa
          go_wp2
          go_quiet (fail)
          go_wp2
          go_ret3
          exact ⟨by rw [HG.out]; rfl, HKP.out.drewN⟩
end Go.Proofs.Ytmhabjjabdambaa
namespace Go.Proofs.Ytmhabjjabdambaa
open Go.ChangeShapes Go.WideShapes Go.ChangeAt Go.RowKit
set_option linter.unusedVariables false
set_option linter.unusedSimpArgs false

def okL (l : List Int) : Bool := l.all fun e => e == 0
def OkRel (l : List Int) (w : World) (i : Value) (wr : World) : Prop := ∃ k : Nat, k ≤ l.length ∧ i = .int .i64 k ∧ okL (l.drop k) = okL l ∧ w = wr

set_option maxHeartbeats 400000 in
theorem ok_any (l : List Int) (v : Value) (w : World) (hr : RD w eInt v l) : Calls Try.prog 17 #[v] w fun e w' => e = .returned (.bool (okL l)) ∧ w = w' := by
  obtain ⟨A, c, rfl, hc, hm⟩ := hr.shape
  have HR := hide hr
  clear hr
  go_enter Try.func17, Try.ntmps17
  go_wp2
  go_loopw [7] (OkRel l w) (fun i _ => l.length - (intOf i).toNat)
  case atStart => exact ⟨0, by omega, rfl, rfl, rfl⟩
  case round =>
    obtain ⟨k, hk, rfl, hok, rfl⟩ := hrel
    have HO := hide hok
    clear hok
    by_cases hlt : k < l.length
    · obtain ⟨b, o, rfl, hb, c0⟩ := HR.out.int hlt
      have hd : Hid (okL (l.drop k) = (l[k] == 0 && okL (l.drop (k + 1)))) := hide (by rw [List.drop_eq_getElem_cons hlt]; rfl)
      by_cases h0 : l[k] = 0
      · have hn : (l[k] != 0) = false := by simp [h0]
        have hst : Hid (okL (l.drop (k + 1)) = okL l) := hide (by rw [← HO.out, hd.out, h0]; rfl)
        clear h0
        go_wp2
        go_roundw
        case rel => exact ⟨k + 1, by omega, by go_num, hst.out, rfl⟩
        case measure => simp [intOf]; omega
      · have hn : (l[k] != 0) = true := by simp [h0]
        have hst : Hid (okL l = false) := hide (by rw [← HO.out, hd.out]; simp [h0])
        clear h0
        go_wp2
        go_ret
        exact ⟨by rw [hst.out]; rfl, rfl⟩
    · have hst : Hid (okL l = true) := hide (by rw [← HO.out, List.drop_of_length_le (by omega)]; rfl)
      go_wp2
      go_ret
      exact ⟨by rw [hst.out]; rfl, rfl⟩
end Go.Proofs.Ytmhabjjabdambaa
namespace Go.Proofs.Ytmhabjjabdambaa
open Go.ChangeShapes Go.WideShapes Go.ChangeAt Go.RowKit
set_option linter.unusedVariables false
set_option linter.unusedSimpArgs false

theorem halfLives_run : hRun [(1, 65535, 0), (1, 300, 0), (1, 2, 0), (4, 300, 0), (3, 300, 0), (5, 65535, 0)] = ([2, 65535], [⟨0, 0, 0, false⟩, ⟨0, 0, 0, false⟩, ⟨0, 0, 0, false⟩, ⟨0, 65535, 0, true⟩, ⟨0, 0, 0, true⟩, ⟨0, 2, 0, true⟩], 0) := by decide +kernel
theorem halfLives_ends : hEnds [9, 4, 7] = (4, 9, 0) := by decide +kernel
theorem okL_ok2 : okL [0, 0] = true := rfl
set_option maxRecDepth 100000 in
set_option maxHeartbeats 4000000 in
theorem halfLives_any (w : World) : Calls Try.prog 11 #[] w (Ret (.bool true) w) := by
  have H1 := hide (fun W v h => hRun_any [(1, 65535, 0), (1, 300, 0), (1, 2, 0), (4, 300, 0), (3, 300, 0), (5, 65535, 0)] v W h)
  have H2 := hide (fun W v h => hEnds_any [9, 4, 7] v W h)
  rw [halfLives_run] at H1
  rw [halfLives_ends] at H2
  go_enter Try.func11, Try.ntmps11
  go_wp2_with fail
  refine (H1.out _ _ (RD.block (l := [(1, 65535, 0), (1, 300, 0), (1, 2, 0), (4, 300, 0), (3, 300, 0), (5, 65535, 0)]) (heap_alloc_new w _) rfl (by simp [maxLen]))).mono ?_
  rintro e w1 ⟨v1, u1, rfl, ho1, hu1, hb1⟩
  have kk1 : Kp w w1 := (Kp.refl w).alloc.trans hb1
  have HR1 := hide ho1.rd
  obtain ⟨A1, c1, rfl, _, _⟩ := hu1.shape
  have HU1 := hide hu1
  clear ho1 hb1 hu1
  go_wp2_with fail
  refine (H2.out _ _ (RD.block (l := [9, 4, 7]) (heap_alloc_new w1 _) rfl (by simp [maxLen]))).mono ?_
  rintro e w2 ⟨rfl, hb2⟩
  have kk2 : Kp w1 w2 := (Kp.refl w1).alloc.trans hb2
  clear hb2
  go_wp2_with fail
  refine (ok_any [0, 0] _ _ (RD.block (l := [0, 0]) (heap_alloc_new w2 _) rfl (by simp [maxLen]))).mono ?_
  rintro e w3 ⟨rfl, hw3⟩
  have kk3 : Kp w2 w3 := by rw [← hw3]; exact (Kp.refl w2).alloc
  have hok := okL_ok2
  clear hw3
  go_wp2_with fail
  refine (eqInts_to _ _ true _ _ _ ((HR1.out.kp (kk2.trans kk3)).alloc _) (RD.block (l := [2, 65535]) (heap_alloc_new w3 _) rfl (by simp [maxLen])) (by decide)).mono ?_
  rintro e w4 ⟨rfl, hb4⟩
  have kk4 : Kp w3 w4 := (Kp.refl w3).alloc.trans (Kp.of hb4)
  clear hb4
  have hu4 := HU1.out.kp (kk2.trans (kk3.trans kk4))
  obtain ⟨b, o, rfl, hb, x0, x1, x2, x3⟩ := hu4.ans (k := 3) (by decide)
  obtain ⟨b', o', he, hb', y0, y1, y2, y3⟩ := hu4.ans (k := 5) (by decide)
  injection he with he
  injection he with he1 he2
  subst he1 he2
  go_wp2
  go_ret
  exact ⟨rfl, Kp.bel (kk1.trans (kk2.trans (kk3.trans kk4)))⟩
end Go.Proofs.Ytmhabjjabdambaa
namespace Go.Proofs.Ytmhabjjabdambaa
open Go.ChangeShapes Go.WideShapes Go.ChangeAt Go.RowKit
set_option linter.unusedVariables false
set_option linter.unusedSimpArgs false

def CtRel (n : Nat) (w : World) (i : Value) (wr : World) : Prop := ∃ k : Nat, k ≤ n ∧ i = .int .i64 k ∧ Kp w wr
set_option maxHeartbeats 1000000 in
theorem eqAns_same (l : List An) (v u : Value) (w : World) (hl : RD w eAns v l) (hm : RD w eAns u l) : Calls Try.prog 15 #[v, u] w (Ret (.bool true) w) := by
  obtain ⟨A, c, rfl, hc, hc'⟩ := hl.shape
  obtain ⟨A2, c2, rfl, hc2, hc2'⟩ := hm.shape
  have HL := hide hl
  have HM := hide hm
  clear hl hm
  have hn : ((l.length : Int) != (l.length : Int)) = false := by simp
  go_enter Try.func15, Try.ntmps15
  go_wp2
  go_loopw [13] (CtRel l.length w) (fun i wr => l.length - (intOf i).toNat)
  case atStart => exact ⟨0, by omega, rfl, Kp.refl _⟩
  case round =>
    obtain ⟨k, hk, rfl, hkp⟩ := hrel
    by_cases hlt : k < l.length
    · obtain ⟨b, o, rfl, hb, c0, c1, c4, c3⟩ := (HL.out.kp hkp).ans hlt
      obtain ⟨b2, o2, rfl, hb2, d0, d1, d2, d3⟩ := (HM.out.kp hkp).ans hlt
      go_wp2_with fail
      go_quiet (fail)
      go_wp2
      go_roundw
      case rel => exact ⟨k + 1, by omega, by go_num, by (focus ((repeat (first | (with_reducible assumption) | (with_reducible exact Kp.refl _) | (with_reducible apply Kp.drew) | (with_reducible apply Kp.drewN) | ((with_reducible apply Kp.setR); (focus (first | (with_reducible assumption) | (simp; done) | (simp; omega)))) | (with_reducible apply Kp.alloc) | ((with_reducible apply Kp.call); (with_reducible assumption)) | ((with_reducible apply Kp.app); (with_reducible assumption)))); done))⟩
      case measure => simp [intOf]; omega
    · go_wp2
      go_ret
      exact ⟨rfl, hkp.bel⟩
end Go.Proofs.Ytmhabjjabdambaa
namespace Go.Proofs.Ytmhabjjabdambaa
open Go.ChangeShapes Go.WideShapes Go.ChangeAt Go.RowKit
set_option linter.unusedVariables false
set_option linter.unusedSimpArgs false

def MkRel (l : List IP) (w : World) (ov iv : Value) (wr : World) : Prop := ∃ k : Nat, k ≤ l.length ∧ iv = .int .i64 k ∧ OW wr w.heap.size 3 eInt ov ((l.take k).map Prod.fst) ∧ Kp w wr
set_option maxRecDepth 100000 in
set_option maxHeartbeats 1000000 in
theorem mapKeys_any (l : List IP) (v : Value) (w : World) (hr : RD w ePair v l) (hn : l.length ≤ 1000000) : Calls Try.prog 21 #[v] w (RetOW 3 eInt (l.map Prod.fst) w) := by
  obtain ⟨A, c, rfl, hc, hm⟩ := hr.shape
  have HR := hide hr
  clear hr
  go_enter Try.func21, Try.ntmps21
  go_wp2
  go_loopw [3, 8] (MkRel l w) (fun _ i _ => l.length - (intOf i).toNat)
  case atStart => exact ⟨0, by omega, rfl, OW.nil, Kp.refl _⟩
  case round =>
    obtain ⟨k, hk, rfl, ho, hkp⟩ := hrel
    have hi := ho.hi
    have HO := hide ho
    obtain ⟨u, hu⟩ : ∃ u, u = u3 := ⟨_, rfl⟩
    by_cases hlt : k < l.length
    · obtain ⟨b, o, rfl, _, x0, x1⟩ := (HR.out.kp hkp).pair hlt
      obtain ⟨y, hy⟩ : ∃ y, y = l[k].1 := ⟨_, rfl⟩
      rw [← hy] at x0
      have HN : Hid ((l.take k).map Prod.fst ++ [y] = (l.take (k + 1)).map Prod.fst) := hide (by rw [List.take_succ_eq_append_getElem hlt, List.map_append, hy]; rfl)
      have HM1 : Hid ((((l.take k).map Prod.fst).length + [y].length) * 8 ≤ 140737488355328) := hide (by simp; omega)
      have HM2 : Hid (((l.take k).map Prod.fst).length + [y].length ≤ maxLen) := hide (by simp [maxLen]; omega)
      clear hy ho hu
      go_wp2_with (at_builtin; (with_reducible refine list_app (B := w.heap.size) (l := (l.take k).map Prod.fst) (m := [y]) row_int u3 ?_ (.tmp 12) (.tmp 15) ?_ ?_ ?_ ?_ HM1.out HM2.out ?_ ?_); (with_reducible rfl); (with_reducible rfl); rfl; ((with_reducible apply OW.alloc); (with_reducible apply OW.alloc); exact HO.out); (show RD _ _ (.slice (some ⟨_, 0, none⟩) 1 1) _; (focus ((repeat (first | (with_reducible assumption) | exact RD.new1 _ rfl | (refine RD.new1e _ ?_ rfl; simp; done) | (with_reducible apply RD.alloc) | (with_reducible apply RD.drew) | (with_reducible apply RD.drewN) | ((with_reducible apply RD.belowR); (with_reducible assumption)))); done))); (have := hkp.size; simp; omega); intro v3 w3 ho3 hg3 hat3)
      go_roundw
      case rel => exact ⟨k + 1, by omega, by go_num, by rw [← HN.out]; exact ho3, Kp.app hg3 hkp.alloc.alloc hi⟩
      case measure => simp [intOf]; omega
    · have hkl : Hid ((l.take k).map Prod.fst = l.map Prod.fst) := hide (by rw [List.take_of_length_le (by omega)])
      clear ho hu
      go_wp2
      go_ret
      exact ⟨_, rfl, by rw [← hkl.out]; exact HO.out, hkp.bel⟩

end Go.Proofs.Ytmhabjjabdambaa
namespace Go.Proofs.Ytmhabjjabdambaa
open Go.ChangeShapes Go.WideShapes Go.ChangeAt Go.RowKit
set_option linter.unusedVariables false
set_option linter.unusedSimpArgs false

theorem info_op : (Try.prog.info? 43).map (fun i => (i.zero, i.size, i.bytes)) = some (some (.agg #[.int .i64 0, .int .i64 0, .int .i64 0]), 3, 24) := by kernel_rfl
theorem row_op : Row Try.prog 29 43 eOp 24 := row_of info_op Try.underlying29 rfl rfl (by decide)
end Go.Proofs.Ytmhabjjabdambaa
namespace Go.Proofs.Ytmhabjjabdambaa
open Go.ChangeShapes Go.WideShapes Go.ChangeAt Go.RowKit
set_option linter.unusedVariables false
set_option linter.unusedSimpArgs false

end Go.Proofs.Ytmhabjjabdambaa
namespace Go.Proofs.Ytmhabjjabdambaa
open Go.ChangeShapes Go.WideShapes Go.ChangeAt Go.RowKit
set_option linter.unusedVariables false
set_option linter.unusedSimpArgs false

set_option maxHeartbeats 400000 in
theorem cloneOps_any (l : List O3) (v : Value) (w : World) (hr : RD w eOp v l) (hn : l.length * 24 ≤ 140737488355328) : Calls Try.prog 16 #[v] w (RetOW 43 eOp l w) := by
  obtain ⟨A, c, rfl, hc, hm, hA, h3⟩ := id hr
  have he := fun W => Lib.run_eql_slice_nil (P := Try.prog) W 29 43 A l.length c 0 0 Try.underlying29
  have HR := hide hr
  clear hr h3
  cases A with
  | none =>
    have hc0 : c = 0 := hA rfl
    have hl : l = [] := List.eq_nil_of_length_eq_zero (by omega)
    subst hl
    subst hc0
    clear hA
    simp only [List.length_nil] at he ⊢
    go_enter Try.func16, Try.ntmps16
    go_wp2
    go_ret
    exact ⟨_, rfl, OW.nil, Below.refl _ _⟩
  | some a =>
    have HM1 : Hid ((([] : List O3).length + l.length) * 24 ≤ 140737488355328) := hide (by simp; omega)
    have HM2 : Hid (([] : List O3).length + l.length ≤ maxLen) := hide (by simp only [List.length_nil, Nat.zero_add]; exact Nat.le_trans hc hm)
    have HE : Hid (OW (w.alloc (.cells #[] 43)) w.heap.size 43 eOp (.slice (some ⟨w.heap.size, 0, none⟩) 0 0) ([] : List O3)) := hide (OW.empty (Nat.le_refl _))
    have HHI : Hi w.heap.size (.slice (some ⟨w.heap.size, 0, none⟩) 0 0) := fun k hk => by simp [Value.ownBlock] at hk; omega
    clear hA
    go_enter Try.func16, Try.ntmps16
    go_wp2_with (at_builtin; (with_reducible refine list_app (B := w.heap.size) (l := ([] : List O3)) (m := l) row_op (.slice (some ⟨w.heap.size, 0, none⟩) 0 0) ?_ (.tmp 5) (.tmp 6) ?_ ?_ ?_ ?_ HM1.out HM2.out ?_ ?_); (with_reducible rfl); (with_reducible rfl); rfl; (exact HE.out); (show RD _ _ (.slice (some a) l.length c) _; exact HR.out.alloc _); (simp); intro v3 w3 ho3 hg3 hat3)
    go_ret
    exact ⟨_, rfl, ho3, (Kp.app hg3 (Kp.refl w).alloc HHI).bel⟩
end Go.Proofs.Ytmhabjjabdambaa
namespace Go.Proofs.Ytmhabjjabdambaa
open Go.ChangeShapes Go.WideShapes Go.ChangeAt Go.RowKit
set_option linter.unusedVariables false
set_option linter.unusedSimpArgs false

theorem split_len (S : List Int) (x : Int) : (S.filter fun y => decide (y < x)).length + (S.filter fun y => decide (x < y)).length ≤ S.length := by
  induction S with
  | nil => simp
  | cons a S ih =>
    simp only [List.filter_cons, List.length_cons]
    by_cases h1 : a < x
    · rw [if_pos (by simpa using h1), if_neg (by simp; omega), List.length_cons]; omega
    · rw [if_neg (by simpa using h1)]
      by_cases h2 : x < a
      · rw [if_pos (by simpa using h2), List.length_cons]; omega
      · rw [if_neg (by simpa using h2)]; omega
theorem insU_len (S : List Int) (x : Int) : (insU S x).length ≤ S.length + 1 := by
  have := split_len S x
  simp only [insU, List.length_append, List.length_singleton]; omega
theorem delU_len (S : List Int) (x : Int) : (delU S x).length ≤ S.length := List.length_filter_le _ _
/-- What a set that was run through holds. -/
def HSt (S : List Int) : Prop := UpL S ∧ ∀ x ∈ S, 0 ≤ x ∧ x ≤ 65535
theorem hDo_st {S : List Int} (h : HSt S) (o : O3) : HSt (hDo S o).1 ∧ (hDo S o).1.length ≤ S.length + 1 := by
  obtain ⟨kind, key, val⟩ := o
  unfold hDo
  simp only
  split
  · exact ⟨h, by simp⟩
  · split
    · exact ⟨h, by simp⟩
    · rename_i h1 h2
      split
      · exact ⟨h, by simp⟩
      · split
        · exact ⟨h, by simp⟩
        · simp only
          split
          · refine ⟨⟨insU_up h.1 _, fun x hx => ?_⟩, insU_len _ _⟩
            rcases insU_mem.1 hx with e | e
            · omega
            · exact h.2 x e
          · split
            · exact ⟨⟨delU_up h.1 _, fun x hx => h.2 x (delU_mem.1 hx).1⟩, by have := delU_len S key; omega⟩
            · exact ⟨h, by simp⟩
theorem hRunL_st (ops : List O3) : HSt (hRunL ops).1 ∧ (hRunL ops).1.length ≤ ops.length := by
  have key : ∀ k, k ≤ ops.length → HSt (hRunL (ops.take k)).1 ∧ (hRunL (ops.take k)).1.length ≤ k := by
    intro k
    induction k with
    | zero => exact fun _ => ⟨⟨by simp [hRunL, UpL], fun x hx => by cases hx⟩, Nat.le_refl _⟩
    | succ k ih =>
      intro hk
      obtain ⟨i1, i2⟩ := ih (by omega)
      rw [hRunL_take ops k (by omega), hStep]
      have := hDo_st i1 ops[k]
      exact ⟨this.1, by have := this.2; simp only; omega⟩
  have := key ops.length (Nat.le_refl _)
  rwa [List.take_length] at this
theorem hRunL_app (a b : List O3) : hRunL (a ++ b) = b.foldl hStep (hRunL a) := by rw [hRunL, List.foldl_append]; rfl
theorem hRunL_ans (ops : List O3) : (hRunL ops).2.length = ops.length := by
  have := hRunL_len ops ops.length (Nat.le_refl _)
  rwa [List.take_length] at this
def askO (k : Int) : List O3 := [(4, k, 0), (5, k, 0)]
def asksOf (S : List Int) : List O3 := S.flatMap askO
def toldO (S : List Int) (k : Int) : List An := [ansN (nxU S k), ansN (pvU S k)]
theorem asks_len : ∀ S : List Int, (asksOf S).length = 2 * S.length
  | [] => rfl
  | a :: S => by
    have := asks_len S
    simp only [asksOf] at this
    simp only [asksOf, List.flatMap_cons, List.length_append, List.length_cons, this, askO]
    simp; omega
theorem asks_ans (S : List Int) (h : HSt S) (A : List An) : ∀ K : List Int, (∀ x ∈ K, x ∈ S) → (asksOf K).foldl hStep (S, A) = (S, A ++ K.flatMap (toldO S))
  | [], _ => by simp [asksOf]
  | k :: K, hk => by
    have hb := h.2 k (hk k (by simp))
    have e4 : hDo S (4, k, 0) = (S, ansN (nxU S k)) := by unfold hDo; simp only; rw [if_neg (by omega), if_neg (by omega)]; rfl
    have e5 : hDo S (5, k, 0) = (S, ansN (pvU S k)) := by unfold hDo; simp only; rw [if_neg (by omega), if_neg (by omega)]; rfl
    have ih := asks_ans S h (A ++ toldO S k) K (fun x hx => hk x (by simp [hx]))
    simp only [asksOf] at ih
    simp only [asksOf, List.flatMap_cons, List.foldl_append]
    have : (askO k).foldl hStep (S, A) = (S, A ++ toldO S k) := by
      simp [askO, hStep, e4, e5, toldO]
    rw [this, ih, List.append_assoc]
theorem told_at (S : List Int) : ∀ (K : List Int) (k : Nat) (h : k < K.length), (K.flatMap (toldO S))[2 * k]? = some (ansN (nxU S K[k])) ∧ (K.flatMap (toldO S))[2 * k + 1]? = some (ansN (pvU S K[k]))
  | a :: K, 0, h => ⟨rfl, rfl⟩
  | a :: K, k + 1, h => by
    have := told_at S K k (by simpa using h)
    simp only [List.flatMap_cons, toldO, List.cons_append, List.nil_append, List.getElem_cons_succ] at this ⊢
    rw [show 2 * (k + 1) = 2 * k + 1 + 1 by omega, List.getElem?_cons_succ, List.getElem?_cons_succ, show 2 * k + 1 + 1 + 1 = (2 * k + 1) + 1 + 1 by omega, List.getElem?_cons_succ, List.getElem?_cons_succ]
    exact this
/-- Of ops, and each number's next and prev asked behind them: all that is answered. -/
theorem walk_law (ops : List O3) : hRunL (ops ++ asksOf (hRunL ops).1) = ((hRunL ops).1, (hRunL ops).2 ++ (hRunL ops).1.flatMap (toldO (hRunL ops).1)) := by
  rw [hRunL_app]
  rcases hS : hRunL ops with ⟨S, A⟩
  have := (hRunL_st ops).1
  rw [hS] at this
  exact asks_ans S this A S (fun x hx => hx)
theorem walk_ans (ops : List O3) {S : List Int} (hS : S = (hRunL ops).1) (k : Nat) (h : k < S.length) :
    ((hRunL ops).2 ++ S.flatMap (toldO S))[ops.length + 2 * k]? = some (ansN S[k + 1]?) ∧ ((hRunL ops).2 ++ S.flatMap (toldO S))[ops.length + 2 * k + 1]? = some (ansN (if k = 0 then none else S[k - 1]?)) := by
  have hup := (hRunL_st ops).1.1
  rw [← hS] at hup
  have hl := hRunL_ans ops
  have ht := told_at S S k h
  rw [nx_at hup h, pv_at hup h] at ht
  constructor
  · rw [List.getElem?_append_right (by omega), hl, Nat.add_sub_cancel_left]; exact ht.1
  · rw [List.getElem?_append_right (by omega), hl, show ops.length + 2 * k + 1 - ops.length = 2 * k + 1 by omega]; exact ht.2
end Go.Proofs.Ytmhabjjabdambaa
namespace Go.Proofs.Ytmhabjjabdambaa
open Go.ChangeShapes Go.WideShapes Go.ChangeAt Go.RowKit
set_option linter.unusedVariables false
set_option linter.unusedSimpArgs false

theorem delU_insU {S : List Int} (h : UpL S) {x : Int} (hx : x ∉ S) : delU (insU S x) x = S := up_ext (delU_up (insU_up h x) x) h fun y => by
  rw [delU_mem, insU_mem]
  constructor
  · rintro ⟨h1 | h1, h2⟩
    · exact absurd h1 h2
    · exact h1
  · intro h1; exact ⟨.inr h1, fun e => hx (e ▸ h1)⟩
theorem insU_new_len {S : List Int} (h : UpL S) {x : Int} (hx : x ∉ S) : (insU S x).length = S.length + 1 := by
  have : ∀ T : List Int, x ∉ T → (T.filter fun y => decide (y < x)).length + (T.filter fun y => decide (x < y)).length = T.length := by
    intro T
    induction T with
    | nil => exact fun _ => rfl
    | cons a T ih =>
      intro h1
      have h2 := ih (fun h => h1 (by simp [h]))
      have h3 : a ≠ x := fun h => h1 (by simp [h])
      simp only [List.filter_cons, List.length_cons]
      by_cases h4 : a < x
      · rw [if_pos (by simpa using h4), if_neg (by simp; omega), List.length_cons]; omega
      · rw [if_neg (by simpa using h4), if_pos (by simp; omega), List.length_cons]; omega
  have h2 := this S hx
  simp only [insU, List.length_append, List.length_singleton]; omega
theorem hDo_put (S : List Int) {key : Int} (h : 0 ≤ key ∧ key ≤ 65535) : hDo S (1, key, 0) = (insU S key, ⟨0, 0, 0, decide (key ∈ S)⟩) := by
  unfold hDo; simp only; rw [if_neg (by omega), if_neg (by omega)]; rfl
theorem hDo_cut (S : List Int) {key : Int} (h : 0 ≤ key ∧ key ≤ 65535) : hDo S (3, key, 0) = (delU S key, ⟨0, 0, 0, decide (key ∈ S)⟩) := by
  unfold hDo; simp only; rw [if_neg (by omega), if_neg (by omega)]; rfl
/-- Put, and taken away. -/
theorem cuts_one (ops : List O3) {key : Int} (h : 0 ≤ key ∧ key ≤ 65535) : hRunL (ops ++ [(1, key, 0), (3, key, 0)]) = (delU (insU (hRunL ops).1 key) key, (hRunL ops).2 ++ [⟨0, 0, 0, decide (key ∈ (hRunL ops).1)⟩, ⟨0, 0, 0, true⟩]) := by
  rw [hRunL_app]
  simp only [List.foldl_cons, List.foldl_nil, hStep, hDo_put _ h, hDo_cut _ h]
  simp [insU_mem]
/-- Put twice. -/
theorem cuts_two (ops : List O3) {key : Int} (h : 0 ≤ key ∧ key ≤ 65535) : hRunL (ops ++ [(1, key, 0), (1, key, 0)]) = (insU (hRunL ops).1 key, (hRunL ops).2 ++ [⟨0, 0, 0, decide (key ∈ (hRunL ops).1)⟩, ⟨0, 0, 0, true⟩]) := by
  rw [hRunL_app]
  simp only [List.foldl_cons, List.foldl_nil, hStep, hDo_put _ h]
  have hup := (hRunL_st ops).1.1
  rw [insU_in (insU_up hup key) (insU_mem.2 (.inl rfl))]
  simp [insU_mem]
end Go.Proofs.Ytmhabjjabdambaa
namespace Go.Proofs.Ytmhabjjabdambaa
open Go.ChangeShapes Go.WideShapes Go.ChangeAt Go.RowKit
set_option linter.unusedVariables false
set_option linter.unusedSimpArgs false

def IxRel (l : List Int) (y : Int) (w : World) (iv : Value) (wr : World) : Prop := ∃ k : Nat, k ≤ l.length ∧ iv = .int .i64 k ∧ y ∉ l.take k ∧ w = wr
set_option maxRecDepth 100000 in
set_option maxHeartbeats 1000000 in
theorem index_any (l : List Int) (y : Int) (v : Value) (w : World) (hr : RD w eInt v l) : Calls Try.prog 28 #[v, .int .i64 y] w fun e w' => ∃ i : Int, e = .returned (.int .i64 i) ∧ (0 ≤ i ↔ y ∈ l) ∧ w = w' := by
  obtain ⟨A, c, rfl, hc, hm⟩ := hr.shape
  have HR := hide hr
  clear hr
  go_enter Try.func28, Try.ntmps28
  go_wp2
  go_loopw [8] (IxRel l y w) (fun i _ => l.length - (intOf i).toNat)
  case atStart => exact ⟨0, by omega, rfl, by simp, rfl⟩
  case round =>
    obtain ⟨k, hk, rfl, hno, rfl⟩ := hrel
    have HNO := hide hno
    clear hno
    by_cases hlt : k < l.length
    · obtain ⟨b, o, rfl, _, c0⟩ := HR.out.int hlt
      have HT : Hid (l.take (k + 1) = l.take k ++ [l[k]]) := hide (List.take_succ_eq_append_getElem hlt)
      have HMM : Hid (l[k] ∈ l) := hide (List.getElem_mem hlt)
      obtain ⟨x, hx⟩ : ∃ x, x = l[k] := ⟨_, rfl⟩
      rw [← hx] at c0 HT HMM
      clear hx
      by_cases hxy : y = x
      · have b0 : (y == x) = true := by simp [hxy]
        have HXY := hide hxy
        clear hxy
        go_wp2
        go_ret
        exact ⟨(k : Int), rfl, ⟨fun _ => by rw [HXY.out]; exact HMM.out, fun _ => by omega⟩, rfl⟩
      · have b0 : (y == x) = false := by simpa using hxy
        have HXY := hide hxy
        clear hxy
        go_wp2
        go_roundw
        case rel => exact ⟨k + 1, by omega, by go_num, by rw [HT.out]; simp only [List.mem_append, List.mem_singleton]; rintro (h | h); exact HNO.out h; exact HXY.out h, rfl⟩
        case measure => simp [intOf]; omega
    · have HN : Hid (y ∉ l) := hide (by have := HNO.out; rwa [List.take_of_length_le (by omega)] at this)
      go_wp2
      go_ret
      exact ⟨-1, rfl, ⟨fun h => by omega, fun h => absurd h HN.out⟩, rfl⟩
set_option maxRecDepth 100000 in
set_option maxHeartbeats 1000000 in
theorem contains_any (l : List Int) (y : Int) (v : Value) (w : World) (hr : RD w eInt v l) : Calls Try.prog 18 #[v, .int .i64 y] w (Ret (.bool (decide (y ∈ l))) w) := by
  have HI := hide (index_any l y v w hr)
  clear hr
  go_enter Try.func18, Try.ntmps18
  go_wp2_with fail
  with_reducible refine HI.out.mono ?_
  rintro e w1 ⟨i, rfl, hi, rfl⟩
  have HD : Hid (decide (y ∈ l) = decide (0 ≤ i)) := hide (by simp [hi])
  clear hi
  go_wp2
  go_ret
  exact ⟨by rw [HD.out]; rfl, Below.refl _ _⟩

end Go.Proofs.Ytmhabjjabdambaa
namespace Go.Proofs.Ytmhabjjabdambaa
open Go.ChangeShapes Go.WideShapes Go.ChangeAt Go.RowKit Go.Deep
set_option linter.unusedVariables false
set_option linter.unusedSimpArgs false

theorem bulk_one {H : Type} (d : DataW H) : 1 ≤ Rows.uptoBulk d := by
  cases d with
  | lit l => cases l <;> simp [Rows.uptoBulk]
  | nil => simp [Rows.uptoBulk]
  | ptr d => simp [Rows.uptoBulk]
  | slice elems spare => simp [Rows.uptoBulk]
  | agg parts => simp [Rows.uptoBulk]
  | iface t d => simp [Rows.uptoBulk]
  | map entries => simp [Rows.uptoBulk]
  | held h => simp [Rows.uptoBulk]
theorem bulk_len {H : Type} : ∀ l : List (DataW H), l.length ≤ Rows.uptoBulkAll l
  | [] => by simp
  | x :: r => by
    have h1 := bulk_one x
    have h2 := bulk_len r
    simp only [Rows.uptoBulkAll, List.length_cons]
    omega
section
variable {H : Type} {enc : TypeId × Value → H} {w : World} {base : Nat} {spare : Nat → Bool} {held : Bool}
theorem ints_bulk {d : DataW H} {p : List MemPlace} {a0 : Option Addr} {n c : Nat} (h : DataW.Trod enc Try.prog w base spare held 22 (.slice a0 n c) d p) : n ≤ Rows.uptoBulk d := by
  obtain ⟨fuel, hf⟩ := h
  rcases open_slice1 Try.underlying22 (by kernel_rfl) hf with ⟨h1, _⟩ | ⟨a, len, cap, m, nn, V, D, Pl, h1, _, _, _, _, h2, _⟩
  · simp [Value.cells] at h1
    obtain ⟨_, rfl, _⟩ := h1
    omega
  · simp [Value.cells] at h1
    obtain ⟨_, rfl, _⟩ := h1
    injection h2 with h2 _
    subst h2
    rw [Rows.uptoBulk]
    have := bulk_len ((List.range n).map D)
    rw [List.length_map, List.length_range] at this
    omega
end
theorem bulk_part {H : Type} {d : DataW H} : ∀ {l : List (DataW H)}, d ∈ l → Rows.uptoBulk d ≤ Rows.uptoBulkAll l
  | x :: r, h => by
    simp only [Rows.uptoBulkAll]
    rcases List.mem_cons.1 h with e | h
    · subst e; omega
    · have := bulk_part h; omega
theorem upto_part {H : Type} {d : DataW H} {l : List (DataW H)} (h : Rows.uptoSmall H l = true) (hd : d ∈ l) : Rows.uptoBulk d ≤ 1048576 := by
  have h1 := of_decide_eq_true h
  have h2 := bulk_part hd
  omega
end Go.Proofs.Ytmhabjjabdambaa
namespace Go.Proofs.Ytmhabjjabdambaa
open Go.ChangeShapes Go.WideShapes Go.ChangeAt Go.RowKit
set_option linter.unusedVariables false
set_option linter.unusedSimpArgs false

def pO (k : Int) : O3 := (1, k, 0)
theorem info_opZ : (Try.prog.info? 43).map (fun i => (i.zero, i.size, i.bytes)) = some (some (.agg #[.int .i64 0, .int .i64 0, .int .i64 0]), 3, 24) := by kernel_rfl
theorem row_opZ : Row Try.prog 29 43 eOp 24 := row_of info_opZ Try.underlying29 rfl rfl (by decide)
def PaRel (l : List Int) (w : World) (ov iv : Value) (wr : World) : Prop := ∃ k : Nat, k ≤ l.length ∧ iv = .int .i64 k ∧ OW wr w.heap.size 43 eOp ov ((l.take k).map pO) ∧ Kp w wr
set_option maxRecDepth 100000 in
set_option maxHeartbeats 1000000 in
theorem putAll_any (l : List Int) (v : Value) (w : World) (hr : RD w eInt v l) (hn : l.length ≤ 1048576) : Calls Try.prog 10 #[v] w (RetOW 43 eOp (l.map pO) w) := by
  obtain ⟨A, c, rfl, hc, hm⟩ := hr.shape
  have HR := hide hr
  clear hr
  go_enter Try.func10, Try.ntmps10
  go_wp2
  go_loopw [3, 8] (PaRel l w) (fun _ i _ => l.length - (intOf i).toNat)
  case atStart => exact ⟨0, by omega, rfl, OW.nil, Kp.refl _⟩
  case round =>
    obtain ⟨k, hk, rfl, ho, hkp⟩ := hrel
    have hi := ho.hi
    have HO := hide ho
    by_cases hlt : k < l.length
    · obtain ⟨b, o, rfl, _, x0⟩ := (HR.out.kp hkp).int hlt
      obtain ⟨y, hy⟩ : ∃ y, y = l[k] := ⟨_, rfl⟩
      rw [← hy] at x0
      have HN : Hid ((l.take k).map pO ++ [((1, y, 0) : O3)] = (l.take (k + 1)).map pO) := hide (by rw [List.take_succ_eq_append_getElem hlt, List.map_append, hy]; rfl)
      have HM1 : Hid ((((l.take k).map pO).length + [((1, y, 0) : O3)].length) * 24 ≤ 140737488355328) := hide (by simp; omega)
      have HM2 : Hid (((l.take k).map pO).length + [((1, y, 0) : O3)].length ≤ maxLen) := hide (by simp [maxLen]; omega)
      clear hy ho
      go_wp2_with (at_builtin; (with_reducible refine list_app (B := w.heap.size) (l := (l.take k).map pO) (m := [((1, y, 0) : O3)]) row_opZ u3 ?_ (.tmp 12) (.tmp 15) ?_ ?_ ?_ ?_ HM1.out HM2.out ?_ ?_); (with_reducible rfl); (with_reducible rfl); rfl; (exact HO.out.alloc _); (show RD _ _ (.slice (some ⟨_, 0, none⟩) 1 1) _; (focus ((repeat (first | (with_reducible assumption) | exact RD.new1 _ rfl | (refine RD.new1e _ ?_ rfl; simp; done) | (with_reducible apply RD.alloc) | (with_reducible apply RD.drew) | (with_reducible apply RD.drewN) | ((with_reducible apply RD.belowR); (with_reducible assumption)))); done))); (have := hkp.size; simp; omega); intro v3 w3 ho3 hg3 hat3)
      go_roundw
      case rel => exact ⟨k + 1, by omega, by go_num, by rw [← HN.out]; exact ho3, Kp.app hg3 hkp.alloc hi⟩
      case measure => simp [intOf]; omega
    · have hkl : Hid ((l.take k).map pO = l.map pO) := hide (by rw [List.take_of_length_le (by omega)])
      clear ho
      go_wp2
      go_ret
      exact ⟨_, rfl, by rw [← hkl.out]; exact HO.out, hkp.bel⟩
end Go.Proofs.Ytmhabjjabdambaa
