/-
  hedgref.Answered: what it answers
-/
import Derived.Test.YtcljlnagpjilaaaGreatDoorG25
import Derived.Test.YtcljlnagpjilaaaGreatDoorG22

set_option linter.unusedVariables false
set_option linter.unusedSimpArgs false
set_option maxRecDepth 100000
set_option maxHeartbeats 8000000
namespace Go.Proofs.YtcljlnagpjilaaaGreatDoor
open Go.ChangeShapes Go.WideShapes Go.ChangeAt Go.RowKit
def AwRel (ops : List O3) (w : World) (lv ov iv : Value) (wr : World) : Prop :=
 ∃ k : Nat, k <= ops.length /\ iv = .int .i64 k /\ RD wr ePair lv (runL (ops.take k)).1 /\ OW wr w.heap.size 84 eAns ov (runL (ops.take k)).2 /\ Ap (runL (ops.take k)).1.length lv ov /\ Kp w wr
def AnsweredPost (r : List IP × List An) (w : World) (e : Ending) (w' : World) : Prop := ∃ v u, e = .returned (.tuple #[v, u]) /\ RD w' ePair v r.1 /\ RD w' eAns u r.2 /\ Below w.heap.size w w'
theorem answered_any (ops : List O3) (v : Value) (w : World) (hr : RD w eOp v ops) (hn : ops.length <= 300) : Calls Tryz.prog 56 #[v] w (AnsweredPost (runL ops) w) := by
 obtain ⟨A, c, rfl, hc, hm⟩ := hr.shape
 have HR := hide hr
 clear hr
 go_enter Tryz.func56, Tryz.ntmps56
 go_wp2
 go_loopw [4, 5, 11] (AwRel ops w) (fun _ _ i _ => ops.length - (intOf i).toNat)
 case atStart => exact ⟨0, by omega, rfl, RD.nil, OW.nil, fun h => by simp [runL] at h, Kp.refl _⟩
 case round =>
  obtain ⟨k, hk, rfl, hl, ho, hap, hkp⟩ := hrel
  have hi := ho.hi
  have HLO := hide ho.lo
  have HL := hide hl
  have HO := hide ho
  have HAP := hide hap
  have hol := runL_len ops k hk
  obtain ⟨A6, c6, hv6, hc6, hm6⟩ := ho.rd.shape
  rw [hol] at hv6 hc6
  subst hv6
  clear hl ho hap
  by_cases hlt : k < ops.length
  ·obtain ⟨b, o, rfl, _, x0, x1, x2⟩ := (HR.out.kp hkp).op hlt
   have hst := runL_take ops k hlt
   have hri := runL_right ops k hk
   obtain ⟨S, hS⟩ : ∃ S, S = runL (ops.take k) := ⟨_, rfl⟩
   rw [<- hS] at HL HO HAP hst hol hri
   have hsl := mapRight_len S.1 hri
   obtain ⟨D, hD⟩ : ∃ D, D = doA S.1 ops[k].1 ops[k].2.1 ops[k].2.2 := ⟨_, rfl⟩
   have HST : Hid (runL (ops.take (k + 1)) = (D.1, S.2 ++ [D.2])) := hide (by rw [hst, runS, hD])
   have HD := hide (fun W v h => done_any S.1 ops[k].1 ops[k].2.1 ops[k].2.2 v W h (by omega))
   rw [done_do _ _ _ _ hri, <- hD] at HD
   have HM1 : Hid ((S.2.length + [D.2].length) * 32 <= 140737488355328) := hide (by rw [hol]; simp; omega)
   have HM2 : Hid (S.2.length + [D.2].length <= maxLen) := hide (by rw [hol]; simp [maxLen]; omega)
   clear hst hD hS hol hri hsl
   go_wp2_with fail
   refine (HD.out _ _ ((HL.out.alloc _).alloc _)).mono ?_
   rintro e w2 ⟨v2, rfl, hr2, hor, hb2⟩
   have hk2 : Kp wr w2 := (Kp.refl wr).alloc.alloc.trans hb2
   have hz2 := hk2.size
   have HR2 := hide hr2
   have HO2 := hide (HO.out.kp hk2)
   obtain ⟨dl, da, db, dc, dd⟩ := D
   have HAP2 : Hid (Ap dl.length v2 (.slice A6 k c6)) := hide (by
    rcases hor with rfl | hhi
    ·have := RD.len_eq hr2 HL.out
     rw [this]
     exact HAP.out
    ·intro _
     exact Lo.apart HLO.out (Hi.mono hhi (by simp <;> omega)))
   have f0 : w2.frozen? ⟨wr.heap.size + 1, 0, none⟩ = false := by rw [Kp.frozen hb2 (by simp)]; simp [go_sem]
   have f1 : w2.frozen? ⟨wr.heap.size + 1, 1, none⟩ = false := by rw [Kp.frozen hb2 (by simp)]; simp [go_sem]
   have f2 : w2.frozen? ⟨wr.heap.size + 1, 2, none⟩ = false := by rw [Kp.frozen hb2 (by simp)]; simp [go_sem]
   have f3 : w2.frozen? ⟨wr.heap.size + 1, 3, none⟩ = false := by rw [Kp.frozen hb2 (by simp)]; simp [go_sem]
   have r0 : w2.cell? ⟨wr.heap.size + 1, 0, none⟩ = some (.int .i64 0) := Kp.cell hb2 (by simp [go_sem])
   have r1 : w2.cell? ⟨wr.heap.size + 1, 1, none⟩ = some (.int .i64 0) := Kp.cell hb2 (by simp [go_sem])
   have r2 : w2.cell? ⟨wr.heap.size + 1, 2, none⟩ = some (.int .i64 0) := Kp.cell hb2 (by simp [go_sem])
   have r3 : w2.cell? ⟨wr.heap.size + 1, 3, none⟩ = some (.bool false) := Kp.cell hb2 (by simp [go_sem])
   have hkw : Kp w w2 := hkp.trans hk2
   simp only [An.v]
   obtain ⟨W4, hW4⟩ : ∃ W4, W4 = (((w2.setCell ⟨wr.heap.size + 1, 0, none⟩ (.int .i64 da)).setCell ⟨wr.heap.size + 1, 1, none⟩ (.int .i64 db)).setCell ⟨wr.heap.size + 1, 2, none⟩ (.int .i64 dc)).setCell ⟨wr.heap.size + 1, 3, none⟩ (.bool dd) := ⟨_, rfl⟩
   have hkg : Kg (wr.heap.size + 1) w2 W4 := by rw [hW4]; exact ((((Kg.refl _ w2).set).set).set).set
   have HKW : Hid (Kp w W4) := hide (hkg.kp hkw (by have := hkp.size; omega))
   have HO4 : Hid (OW (W4.alloc (.cells #[.int .i64 da, .int .i64 db, .int .i64 dc, .bool dd] 84)) w.heap.size 84 eAns (.slice A6 k c6) S.2) := hide (OW.alloc (by
    rw [hW4]
    have hne : (Value.slice A6 k c6).ownBlock ≠ some (wr.heap.size + 1) := fun e => by have := HLO.out _ e; omega
    exact ((((HO2.out.setCell hne _).setCell hne _).setCell hne _).setCell hne _)) _)
   have HKS : Hid (w.heap.size <= (W4.alloc (.cells #[.int .i64 da, .int .i64 db, .int .i64 dc, .bool dd] 84)).heap.size) := hide (HKW.out.alloc).size
   have HR4 : Hid (RD W4 ePair v2 dl) := hide (by
    rcases hor with rfl | hhi
    ·have h1 := RD.len_eq hr2 HL.out
     exact hr2.kg (fun h0 e => by have := HL.out.lo (by omega) _ e; omega) hkg
    ·exact hr2.kg (fun h0 e => by have := hhi _ e; simp at this; omega) hkg)
   clear hr2 hb2 hor hkg
   subst hW4
   go_wp2_with (at_builtin; (with_reducible refine list_app (B := w.heap.size) (l := S.2) (m := [(⟨da, db, dc, dd⟩ : An)]) row_ans (.slice A6 k c6) ?_ (.tmp 21) (.tmp 23) ?_ ?_ ?_ ?_ HM1.out HM2.out ?_ ?_); (with_reducible rfl); (with_reducible rfl); rfl; (exact HO4.out); (show RD _ _ (.slice (some ⟨_, 0, none⟩) 1 1) _; (exact RD.auto)); (exact HKS.out); intro v3 w3 ho3 hg3 hat3)
   go_roundw
   case rel =>
    refine ⟨k + 1, by omega, by go_num, ?_, by rw [HST.out]; exact ho3, ?_, ?_⟩
    ·rw [HST.out]
     exact RD.app (HR4.out.alloc _) hg3 HAP2.out
    ·rw [HST.out]
     exact HAP2.out.next hat3 (fun h0 => ((HR4.out.alloc _).lo h0))
    ·exact Kp.app hg3 (HKW.out.alloc) hi
   case measure => simp [intOf]; omega
  ·have hkl : k = ops.length := by omega
   subst hkl
   have hS : Hid (ops.take ops.length = ops) := hide (by simp)
   clear hol
   go_wp2
   go_ret2
   exact ⟨_, _, rfl, by rw [<- hS.out]; simpa using HL.out, by rw [<- hS.out]; simpa using HO.out.rd, hkp.bel⟩
end Go.Proofs.YtcljlnagpjilaaaGreatDoor
