/-
  plain.Run: what it answers. Conditions: the list of ops reads as ops (RD).
-/
import Derived.Test.YtfgbbmjnjppfnaaDoorDo
namespace Go.Proofs.YtfgbbmjnjppfnaaDoor
open Go.ChangeShapes Go.WideShapes Go.ChangeAt Go.RowKit
set_option linter.unusedVariables false
set_option linter.unusedSimpArgs false

def runS (s : List IP × List An) (o : O3) : List IP × List An := ((doA s.1 o.1 o.2.1 o.2.2).1, s.2 ++ [(doA s.1 o.1 o.2.1 o.2.2).2])
def runL (ops : List O3) : List IP × List An := ops.foldl runS ([], [])
def runOf (ops : List O3) : List IP × List An × Int := if ops.length > 300 then ([], [], 2) else ((runL ops).1, (runL ops).2, 0)
theorem runL_take (ops : List O3) (k : Nat) (h : k < ops.length) : runL (ops.take (k + 1)) = runS (runL (ops.take k)) ops[k] := by
  rw [List.take_succ_eq_append_getElem h, runL, List.foldl_append]; rfl
theorem runL_len (ops : List O3) (k : Nat) (h : k ≤ ops.length) : (runL (ops.take k)).2.length = k := by
  induction k with
  | zero => rfl
  | succ k ih =>
    rw [runL_take ops k (by omega), runS, List.length_append, ih (by omega)]; rfl
def RunPost (r : List IP × List An × Int) (w : World) (e : Ending) (w' : World) : Prop := ∃ v u, e = .returned (.tuple #[v, u, .int .i64 r.2.2]) ∧ RD w' ePair v r.1 ∧ RD w' eAns u r.2.1 ∧ Below w.heap.size w w'
def RnRel (ops : List O3) (w : World) (lv ov iv : Value) (wr : World) : Prop :=
  ∃ k : Nat, k ≤ ops.length ∧ iv = .int .i64 k ∧ OW wr w.heap.size 62 ePair lv (runL (ops.take k)).1 ∧ OW wr w.heap.size 47 eAns ov (runL (ops.take k)).2 ∧ Kp w wr

set_option maxRecDepth 100000 in
set_option maxHeartbeats 4000000 in
theorem run_any (ops : List O3) (v : Value) (w : World) (hr : RD w eOp v ops) : Calls Tryd.prog 42 #[v] w (RunPost (runOf ops) w) := by
  obtain ⟨A, c, rfl, hc, hm⟩ := hr.shape
  have HR := hide hr
  clear hr
  by_cases hlen : ops.length > 300
  · have H1 : Hid (runOf ops = ([], [], 2)) := hide (by rw [runOf, if_pos hlen])
    go_enter Tryd.func42, Tryd.ntmps42
    go_wp2
    go_ret3
    exact ⟨_, _, by rw [H1.out]; rfl, by rw [H1.out]; exact RD.nil, by rw [H1.out]; exact RD.nil, Below.refl _ _⟩
  · have H1 : Hid (runOf ops = ((runL ops).1, (runL ops).2, 0)) := hide (by rw [runOf, if_neg hlen])
    go_enter Tryd.func42, Tryd.ntmps42
    go_wp2
    go_loopw [5, 6, 16] (RnRel ops w) (fun _ _ i _ => ops.length - (intOf i).toNat)
    case atStart => exact ⟨0, by omega, rfl, OW.nil, OW.nil, Kp.refl _⟩
    case round =>
      obtain ⟨k, hk, rfl, hl, ho, hkp⟩ := hrel
      have hi := ho.hi
      have HLO := hide ho.lo
      have HL := hide hl
      have HO := hide ho
      have hol := runL_len ops k hk
      obtain ⟨A6, c6, hv6, hc6, hm6⟩ := ho.rd.shape
      rw [hol] at hv6 hc6
      subst hv6
      clear hl ho
      by_cases hlt : k < ops.length
      · obtain ⟨b, o, rfl, _, x0, x1, x2⟩ := (HR.out.kp hkp).op hlt
        have hst := runL_take ops k hlt
        obtain ⟨S, hS⟩ : ∃ S, S = runL (ops.take k) := ⟨_, rfl⟩
        rw [← hS] at HL HO hst hol
        obtain ⟨D, hD⟩ : ∃ D, D = doA S.1 ops[k].1 ops[k].2.1 ops[k].2.2 := ⟨_, rfl⟩
        have HST : Hid (runL (ops.take (k + 1)) = (D.1, S.2 ++ [D.2])) := hide (by rw [hst, runS, hD])
        have HD := hide (fun W v h => do_any S.1 ops[k].1 ops[k].2.1 ops[k].2.2 v W h)
        rw [← hD] at HD
        have HM1 : Hid ((S.2.length + [D.2].length) * 32 ≤ 140737488355328) := hide (by rw [hol]; simp; omega)
        have HM2 : Hid (S.2.length + [D.2].length ≤ maxLen) := hide (by rw [hol]; simp [maxLen]; omega)
        clear hst hD hS hol
        go_wp2_with fail
        refine (HD.out _ _ (HL.out.rd.alloc _)).mono ?_
        rintro e w2 ⟨v2, rfl, hr2, hb2⟩
        have hk2 : Kp wr w2 := (Kp.refl wr).alloc.trans hb2
        have HR2 := hide hr2
        have HO2 := hide (HO.out.kp hk2)
        obtain ⟨dl, da, db, dc, dd⟩ := D
        have hkw : Kp w w2 := hkp.trans hk2
        simp only [An.v]
        clear hr2 hb2
        go_wp2_with (at_builtin; (with_reducible refine list_app (B := w.heap.size) (l := S.2) (m := [(⟨da, db, dc, dd⟩ : An)]) row_ans (.slice A6 k c6) ?_ (.tmp 27) (.tmp 29) ?_ ?_ ?_ ?_ HM1.out HM2.out ?_ ?_); (with_reducible rfl); (with_reducible rfl); rfl; ((focus ((with_reducible apply OW.alloc); (with_reducible apply OW.alloc); exact HO2.out))); (show RD _ _ (.slice (some ⟨_, 0, none⟩) 1 1) _; (focus ((repeat (first | (with_reducible assumption) | exact RD.new1 _ rfl | (refine RD.new1e _ ?_ rfl; simp; done) | (with_reducible apply RD.alloc) | (with_reducible apply RD.drew) | (with_reducible apply RD.drewN) | ((with_reducible apply RD.belowR); (with_reducible assumption)))); done))); (exact Kp.size (w := w) (by (focus ((repeat (first | (with_reducible assumption) | (with_reducible exact Kp.refl _) | (with_reducible apply Kp.drew) | (with_reducible apply Kp.drewN) | ((with_reducible apply Kp.setR); (focus (first | (with_reducible assumption) | (simp; done) | (simp; omega)))) | (with_reducible apply Kp.alloc) | ((with_reducible apply Kp.call); (with_reducible assumption)) | ((with_reducible apply Kp.app); (with_reducible assumption)))); done)))); intro v3 w3 ho3 hg3 hat3)
        go_roundw
        case rel =>
          refine ⟨k + 1, by omega, by go_num, ?_, by rw [HST.out]; exact ho3, (by (focus ((repeat (first | (with_reducible assumption) | (with_reducible exact Kp.refl _) | (with_reducible apply Kp.drew) | (with_reducible apply Kp.drewN) | ((with_reducible apply Kp.setR); (focus (first | (with_reducible assumption) | (simp; done) | (simp; omega)))) | (with_reducible apply Kp.alloc) | ((with_reducible apply Kp.call); (with_reducible assumption)) | ((with_reducible apply Kp.app); (with_reducible assumption)))); done)))⟩
          rw [HST.out]
          have hap := Lo.apart HLO.out (Hi.mono HR2.out.hi (by simp))
          exact (OW.kept ((HR2.out.alloc _).alloc _) hg3 hap).more (by have := hkp.size; simp; omega)
        case measure => simp [intOf]; omega
      · have hkl : k = ops.length := by omega
        subst hkl
        have hS : Hid (ops.take ops.length = ops) := hide (by simp)
        clear hol
        go_wp2
        go_ret3
        exact ⟨_, _, by rw [H1.out]; rfl, by rw [H1.out, ← hS.out]; simpa using HL.out.rd, by rw [H1.out, ← hS.out]; simpa using HO.out.rd, hkp.bel⟩
end Go.Proofs.YtfgbbmjnjppfnaaDoor
