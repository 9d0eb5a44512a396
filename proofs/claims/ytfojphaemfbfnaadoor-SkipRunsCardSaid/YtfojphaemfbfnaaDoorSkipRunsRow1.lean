/-
  hedgref.Answered: what it answers. Conditions: the list of ops reads as ops (RD), of at most 300.
  slices.Equal at answers: of two that read as one list it answers true. Conditions: both read as l (RD).
  hedgref.MapKeys: what it answers. Conditions: the list reads as l (RD).
  hedglaw.SkipRuns: the walk: it answers true. Conditions: the list of ops reads as ops (RD); the table of math/bits holds what it is laid with (DTb).
  hedglaw.SkipRuns: THE STATEMENT: for every input it answers true. Conditions: the table of math/bits holds what the program's text lays (tied on the card).
-/
import Derived.Test.YtfojphaemfbfnaaDoorSkipRunsM34
import Derived.Test.YtfojphaemfbfnaaDoorSkipRunsM3
import Derived.Test.YtfojphaemfbfnaaDoorSkipRunsM16
import Derived.Test.YtfojphaemfbfnaaDoorSkipRunsM29
import Derived.Test.YtfojphaemfbfnaaDoorSkipRunsM4
import Derived.Test.YtfojphaemfbfnaaDoorCards
import Derived.Test.YtfojphaemfbfnaaDoorTie
import Derived.SevenTiedAt

namespace Go.Proofs.YtfojphaemfbfnaaDoor
open Go.ChangeShapes Go.WideShapes Go.ChangeAt Go.RowKit
set_option linter.unusedVariables false
set_option linter.unusedSimpArgs false

def AwRel (ops : List O3) (w : World) (lv ov iv : Value) (wr : World) : Prop :=
  ∃ k : Nat, k ≤ ops.length ∧ iv = .int .i64 k ∧ RD wr ePair lv (runL (ops.take k)).1 ∧ OW wr w.heap.size 50 eAns ov (runL (ops.take k)).2 ∧ Ap (runL (ops.take k)).1.length lv ov ∧ Kp w wr
def AnsweredPost (r : List IP × List An) (w : World) (e : Ending) (w' : World) : Prop := ∃ v u, e = .returned (.tuple #[v, u]) ∧ RD w' ePair v r.1 ∧ RD w' eAns u r.2 ∧ Below w.heap.size w w'
set_option maxRecDepth 100000 in
set_option maxHeartbeats 4000000 in
theorem answered_any (ops : List O3) (v : Value) (w : World) (hr : RD w eOp v ops) (hn : ops.length ≤ 300) : Calls Tryd.prog 20 #[v] w (AnsweredPost (runL ops) w) := by
  obtain ⟨A, c, rfl, hc, hm⟩ := hr.shape
  have HR := hide hr
  clear hr
  go_enter Tryd.func20, Tryd.ntmps20
  go_wp2
  go_loopw [4, 5, 11] (AwRel ops w) (fun _ _ i _ => ops.length - (intOf i).toNat)
  case atStart => exact ⟨0, by omega, rfl, RD.nil, OW.nil, fun h => by simp [runL] at h, Kp.refl _⟩
  case round =>
    obtain ⟨k, hk, rfl, hl, ho, hap, hkp⟩ := hrel
    have hi := ho.hi
    have HLO := hide ho.lo
    have HL := hide hl
    have HO := hide ho
    have HAP := hide hap
    have hol := runL_len ops k hk
    obtain ⟨A6, c6, hv6, hc6, hm6⟩ := ho.rd.shape
    rw [hol] at hv6 hc6
    subst hv6
    clear hl ho hap
    by_cases hlt : k < ops.length
    · obtain ⟨b, o, rfl, _, x0, x1, x2⟩ := (HR.out.kp hkp).op hlt
      have hst := runL_take ops k hlt
      have hri := runL_right ops k hk
      obtain ⟨S, hS⟩ : ∃ S, S = runL (ops.take k) := ⟨_, rfl⟩
      rw [← hS] at HL HO HAP hst hol hri
      have hsl := mapRight_len S.1 hri
      obtain ⟨D, hD⟩ : ∃ D, D = doA S.1 ops[k].1 ops[k].2.1 ops[k].2.2 := ⟨_, rfl⟩
      have HST : Hid (runL (ops.take (k + 1)) = (D.1, S.2 ++ [D.2])) := hide (by rw [hst, runS, hD])
      have HD := hide (fun W v h => done_any S.1 ops[k].1 ops[k].2.1 ops[k].2.2 v W h (by omega))
      rw [done_do _ _ _ _ hri, ← hD] at HD
      have HM1 : Hid ((S.2.length + [D.2].length) * 32 ≤ 140737488355328) := hide (by rw [hol]; simp; omega)
      have HM2 : Hid (S.2.length + [D.2].length ≤ maxLen) := hide (by rw [hol]; simp [maxLen]; omega)
      clear hst hD hS hol hri hsl
      go_wp2_with fail
      refine (HD.out _ _ ((HL.out.alloc _).alloc _)).mono ?_
      rintro e w2 ⟨v2, rfl, hr2, hor, hb2⟩
      have hk2 : Kp wr w2 := (Kp.refl wr).alloc.alloc.trans hb2
      have hz2 := hk2.size
      have HR2 := hide hr2
      have HO2 := hide (HO.out.kp hk2)
      obtain ⟨dl, da, db, dc, dd⟩ := D
      have HAP2 : Hid (Ap dl.length v2 (.slice A6 k c6)) := hide (by
        rcases hor with rfl | hhi
        · have := RD.len_eq hr2 HL.out
          rw [this]
          exact HAP.out
        · intro _
          exact Lo.apart HLO.out (Hi.mono hhi (by simp <;> omega)))
      have f0 : w2.frozen? ⟨wr.heap.size + 1, 0, none⟩ = false := by rw [Kp.frozen hb2 (by simp)]; simp [go_sem]
      have f1 : w2.frozen? ⟨wr.heap.size + 1, 1, none⟩ = false := by rw [Kp.frozen hb2 (by simp)]; simp [go_sem]
      have f2 : w2.frozen? ⟨wr.heap.size + 1, 2, none⟩ = false := by rw [Kp.frozen hb2 (by simp)]; simp [go_sem]
      have f3 : w2.frozen? ⟨wr.heap.size + 1, 3, none⟩ = false := by rw [Kp.frozen hb2 (by simp)]; simp [go_sem]
      have r0 : w2.cell? ⟨wr.heap.size + 1, 0, none⟩ = some (.int .i64 0) := Kp.cell hb2 (by simp [go_sem])
      have r1 : w2.cell? ⟨wr.heap.size + 1, 1, none⟩ = some (.int .i64 0) := Kp.cell hb2 (by simp [go_sem])
      have r2 : w2.cell? ⟨wr.heap.size + 1, 2, none⟩ = some (.int .i64 0) := Kp.cell hb2 (by simp [go_sem])
      have r3 : w2.cell? ⟨wr.heap.size + 1, 3, none⟩ = some (.bool false) := Kp.cell hb2 (by simp [go_sem])
      have hkw : Kp w w2 := hkp.trans hk2
      simp only [An.v]
      obtain ⟨W4, hW4⟩ : ∃ W4, W4 = (((w2.setCell ⟨wr.heap.size + 1, 0, none⟩ (.int .i64 da)).setCell ⟨wr.heap.size + 1, 1, none⟩ (.int .i64 db)).setCell ⟨wr.heap.size + 1, 2, none⟩ (.int .i64 dc)).setCell ⟨wr.heap.size + 1, 3, none⟩ (.bool dd) := ⟨_, rfl⟩
      have hkg : Kg (wr.heap.size + 1) w2 W4 := by rw [hW4]; exact ((((Kg.refl _ w2).set).set).set).set
      have HKW : Hid (Kp w W4) := hide (hkg.kp hkw (by have := hkp.size; omega))
      have HO4 : Hid (OW (W4.alloc (.cells #[.int .i64 da, .int .i64 db, .int .i64 dc, .bool dd] 50)) w.heap.size 50 eAns (.slice A6 k c6) S.2) := hide (OW.alloc (by
        rw [hW4]
        have hne : (Value.slice A6 k c6).ownBlock ≠ some (wr.heap.size + 1) := fun e => by have := HLO.out _ e; omega
        exact ((((HO2.out.setCell hne _).setCell hne _).setCell hne _).setCell hne _)) _)
      have HKS : Hid (w.heap.size ≤ (W4.alloc (.cells #[.int .i64 da, .int .i64 db, .int .i64 dc, .bool dd] 50)).heap.size) := hide (HKW.out.alloc).size
      have HR4 : Hid (RD W4 ePair v2 dl) := hide (by
        rcases hor with rfl | hhi
        · have h1 := RD.len_eq hr2 HL.out
          exact hr2.kg (fun h0 e => by have := HL.out.lo (by omega) _ e; omega) hkg
        · exact hr2.kg (fun h0 e => by have := hhi _ e; simp at this; omega) hkg)
      clear hr2 hb2 hor hkg
      subst hW4
      go_wp2_with (at_builtin; (with_reducible refine list_app (B := w.heap.size) (l := S.2) (m := [(⟨da, db, dc, dd⟩ : An)]) row_ans (.slice A6 k c6) ?_ (.tmp 21) (.tmp 23) ?_ ?_ ?_ ?_ HM1.out HM2.out ?_ ?_); (with_reducible rfl); (with_reducible rfl); rfl; (exact HO4.out); (show RD _ _ (.slice (some ⟨_, 0, none⟩) 1 1) _; (focus ((repeat (first | (with_reducible assumption) | exact RD.new1 _ rfl | (refine RD.new1e _ ?_ rfl; simp; done) | (with_reducible apply RD.alloc) | (with_reducible apply RD.drew) | (with_reducible apply RD.drewN) | ((with_reducible apply RD.belowR); (with_reducible assumption)))); done))); (exact HKS.out); intro v3 w3 ho3 hg3 hat3)
      go_roundw
      case rel =>
        refine ⟨k + 1, by omega, by go_num, ?_, by rw [HST.out]; exact ho3, ?_, ?_⟩
        · rw [HST.out]
          exact RD.app (HR4.out.alloc _) hg3 HAP2.out
        · rw [HST.out]
          exact HAP2.out.next hat3 (fun h0 => ((HR4.out.alloc _).lo h0))
        · exact Kp.app hg3 (HKW.out.alloc) hi
      case measure => simp [intOf]; omega
    · have hkl : k = ops.length := by omega
      subst hkl
      have hS : Hid (ops.take ops.length = ops) := hide (by simp)
      clear hol
      go_wp2
      go_ret2
      exact ⟨_, _, rfl, by rw [← hS.out]; simpa using HL.out, by rw [← hS.out]; simpa using HO.out.rd, hkp.bel⟩
end Go.Proofs.YtfojphaemfbfnaaDoor
namespace Go.Proofs.YtfojphaemfbfnaaDoor
open Go.ChangeShapes Go.WideShapes Go.ChangeAt Go.RowKit
set_option linter.unusedVariables false
set_option linter.unusedSimpArgs false

def CtRel (n : Nat) (w : World) (i : Value) (wr : World) : Prop := ∃ k : Nat, k ≤ n ∧ i = .int .i64 k ∧ Kp w wr
set_option maxHeartbeats 1000000 in
theorem eqAns_same (l : List An) (v u : Value) (w : World) (hl : RD w eAns v l) (hm : RD w eAns u l) : Calls Tryd.prog 22 #[v, u] w (Ret (.bool true) w) := by
  obtain ⟨A, c, rfl, hc, hc'⟩ := hl.shape
  obtain ⟨A2, c2, rfl, hc2, hc2'⟩ := hm.shape
  have HL := hide hl
  have HM := hide hm
  clear hl hm
  have hn : ((l.length : Int) != (l.length : Int)) = false := by simp
  go_enter Tryd.func22, Tryd.ntmps22
  go_wp2
  go_loopw [13] (CtRel l.length w) (fun i wr => l.length - (intOf i).toNat)
  case atStart => exact ⟨0, by omega, rfl, Kp.refl _⟩
  case round =>
    obtain ⟨k, hk, rfl, hkp⟩ := hrel
    by_cases hlt : k < l.length
    · obtain ⟨b, o, rfl, hb, c0, c1, c4, c3⟩ := (HL.out.kp hkp).ans hlt
      obtain ⟨b2, o2, rfl, hb2, d0, d1, d2, d3⟩ := (HM.out.kp hkp).ans hlt
      go_wp2_with fail
      go_quiet (fail)
      go_wp2
      go_roundw
      case rel => exact ⟨k + 1, by omega, by go_num, by (focus ((repeat (first | (with_reducible assumption) | (with_reducible exact Kp.refl _) | (with_reducible apply Kp.drew) | (with_reducible apply Kp.drewN) | ((with_reducible apply Kp.setR); (focus (first | (with_reducible assumption) | (simp; done) | (simp; omega)))) | (with_reducible apply Kp.alloc) | ((with_reducible apply Kp.call); (with_reducible assumption)) | ((with_reducible apply Kp.app); (with_reducible assumption)))); done))⟩
      case measure => simp [intOf]; omega
    · go_wp2
      go_ret
      exact ⟨rfl, hkp.bel⟩
end Go.Proofs.YtfojphaemfbfnaaDoor
namespace Go.Proofs.YtfojphaemfbfnaaDoor
open Go.ChangeShapes Go.WideShapes Go.ChangeAt Go.RowKit
set_option linter.unusedVariables false
set_option linter.unusedSimpArgs false

def MkRel (l : List IP) (w : World) (ov iv : Value) (wr : World) : Prop := ∃ k : Nat, k ≤ l.length ∧ iv = .int .i64 k ∧ OW wr w.heap.size 3 eInt ov ((l.take k).map Prod.fst) ∧ Kp w wr
set_option maxRecDepth 100000 in
set_option maxHeartbeats 1000000 in
theorem mapKeys_any (l : List IP) (v : Value) (w : World) (hr : RD w ePair v l) (hn : l.length ≤ 1000000) : Calls Tryd.prog 21 #[v] w (RetOW 3 eInt (l.map Prod.fst) w) := by
  obtain ⟨A, c, rfl, hc, hm⟩ := hr.shape
  have HR := hide hr
  clear hr
  go_enter Tryd.func21, Tryd.ntmps21
  go_wp2
  go_loopw [3, 8] (MkRel l w) (fun _ i _ => l.length - (intOf i).toNat)
  case atStart => exact ⟨0, by omega, rfl, OW.nil, Kp.refl _⟩
  case round =>
    obtain ⟨k, hk, rfl, ho, hkp⟩ := hrel
    have hi := ho.hi
    have HO := hide ho
    obtain ⟨u, hu⟩ : ∃ u, u = u3 := ⟨_, rfl⟩
    by_cases hlt : k < l.length
    · obtain ⟨b, o, rfl, _, x0, x1⟩ := (HR.out.kp hkp).pair hlt
      obtain ⟨y, hy⟩ : ∃ y, y = l[k].1 := ⟨_, rfl⟩
      rw [← hy] at x0
      have HN : Hid ((l.take k).map Prod.fst ++ [y] = (l.take (k + 1)).map Prod.fst) := hide (by rw [List.take_succ_eq_append_getElem hlt, List.map_append, hy]; rfl)
      have HM1 : Hid ((((l.take k).map Prod.fst).length + [y].length) * 8 ≤ 140737488355328) := hide (by simp; omega)
      have HM2 : Hid (((l.take k).map Prod.fst).length + [y].length ≤ maxLen) := hide (by simp [maxLen]; omega)
      clear hy ho hu
      go_wp2_with (at_builtin; (with_reducible refine list_app (B := w.heap.size) (l := (l.take k).map Prod.fst) (m := [y]) row_int u3 ?_ (.tmp 12) (.tmp 15) ?_ ?_ ?_ ?_ HM1.out HM2.out ?_ ?_); (with_reducible rfl); (with_reducible rfl); rfl; ((with_reducible apply OW.alloc); (with_reducible apply OW.alloc); exact HO.out); (show RD _ _ (.slice (some ⟨_, 0, none⟩) 1 1) _; (focus ((repeat (first | (with_reducible assumption) | exact RD.new1 _ rfl | (refine RD.new1e _ ?_ rfl; simp; done) | (with_reducible apply RD.alloc) | (with_reducible apply RD.drew) | (with_reducible apply RD.drewN) | ((with_reducible apply RD.belowR); (with_reducible assumption)))); done))); (have := hkp.size; simp; omega); intro v3 w3 ho3 hg3 hat3)
      go_roundw
      case rel => exact ⟨k + 1, by omega, by go_num, by rw [← HN.out]; exact ho3, Kp.app hg3 hkp.alloc.alloc hi⟩
      case measure => simp [intOf]; omega
    · have hkl : Hid ((l.take k).map Prod.fst = l.map Prod.fst) := hide (by rw [List.take_of_length_le (by omega)])
      clear ho hu
      go_wp2
      go_ret
      exact ⟨_, rfl, by rw [← hkl.out]; exact HO.out, hkp.bel⟩

end Go.Proofs.YtfojphaemfbfnaaDoor
namespace Go.Proofs.YtfojphaemfbfnaaDoor
open Go.ChangeShapes Go.WideShapes Go.ChangeAt Go.RowKit
set_option linter.unusedVariables false
set_option linter.unusedSimpArgs false

theorem DTb.posS {w : World} (h : DTb w) : 0 < w.heap.size := World.block_lt_of_cell? _ _ (h 0 (by omega))
set_option maxRecDepth 100000 in
set_option maxHeartbeats 8000000 in
theorem skipRuns_walk (ops : List O3) (v : Value) (w : World) (hr : RD w eOp v ops) (hdb : DTb w) : Calls Tryd.prog 4 #[v] w (Ret (.bool true) w) := by
  obtain ⟨A, c, rfl, hc, hm⟩ := hr.shape
  have HR := hide hr
  have HRU := hide (skRun_any ops _ w hr hdb hdb.posS)
  rw [skRun_eq] at HRU
  clear hr hdb
  by_cases hlen : ops.length > 300
  · rw [if_pos hlen] at HRU
    go_enter Tryd.func4, Tryd.ntmps4
    go_wp2_with fail
    with_reducible refine HRU.out.mono ?_
    rintro e w1 ⟨v1, u1, rfl, hr1, hu1, kk1⟩
    obtain ⟨A1, c1, rfl, _, _⟩ := hr1.shape
    obtain ⟨A2, c2, rfl, _, _⟩ := hu1.shape
    clear hr1 hu1
    go_wp2
    go_ret
    exact ⟨rfl, kk1.bel⟩
  · rw [if_neg hlen] at HRU
    have HAW := hide (fun W v h => answered_any ops v W h (by omega))
    have hml : ((runL ops).1.map Prod.fst).length ≤ 200 := (krL_in (runL_keys ops)).1
    obtain ⟨R, hR⟩ : ∃ R, R = runL ops := ⟨_, rfl⟩
    rw [← hR] at HRU HAW hml
    obtain ⟨m, b⟩ := R
    simp only at HRU hml
    have HMK := hide (fun v W h => mapKeys_any m v W h (by simp at hml; omega))
    obtain ⟨ks, hks⟩ : ∃ ks, ks = m.map Prod.fst := ⟨_, rfl⟩
    rw [← hks] at HRU HMK hml
    have HRO := hide (fun v W h => rowsOf_any ks v W h (by omega))
    obtain ⟨rr, hrr⟩ : ∃ rr, rr = rowsN ks 12 := ⟨_, rfl⟩
    have hrl : rr.length ≤ 12 := by rw [hrr]; exact rowsN_len ks 12
    rw [← hrr] at HRU HRO
    have HRL := hide hrl
    clear hR hks hrr hrl hml
    go_enter Tryd.func4, Tryd.ntmps4
    go_wp2_with fail
    with_reducible refine HRU.out.mono ?_
    rintro e w1 ⟨v1, u1, rfl, hr1, hu1, kk1⟩
    have HR1 := hide hr1
    have HU1 := hide hu1
    clear hr1 hu1
    go_wp2_with fail
    refine (HAW.out _ _ (HR.out.kp kk1)).mono ?_
    rintro e w2 ⟨v2, u2, rfl, hr2, hu2, hb2⟩
    have kk2 : Kp w1 w2 := Kp.of hb2
    have HR2 := hide hr2
    have HU2 := hide hu2
    clear hr2 hu2 hb2
    go_wp2_with fail
    with_reducible refine (HMK.out _ _ HR2.out).mono ?_
    rintro e w3 ⟨v3, rfl, ho3, hb3⟩
    have kk3 : Kp w2 w3 := Kp.of hb3
    have HR3 := hide ho3.rd
    clear ho3 hb3
    go_wp2_with fail
    with_reducible refine (HRO.out _ _ HR3.out).mono ?_
    rintro e w4 ⟨v4, rfl, hr4, kk4⟩
    have HR4 := hide hr4
    have HC := hide (sameRows_any rr rr v1 v4 w4 (HR1.out.kp (kk2.trans (kk3.trans kk4))) hr4 (by have := HRL.out; omega))
    rw [decide_eq_true rfl] at HC
    clear hr4
    go_wp2_with fail
    with_reducible refine HC.out.mono ?_
    rintro e w5 ⟨rfl, hb5⟩
    have kk5 : Kp w4 w5 := Kp.of hb5
    clear hb5
    have HE := hide (eqAns_same b u1 u2 w5 (HU1.out.kp (kk2.trans (kk3.trans (kk4.trans kk5)))) (HU2.out.kp (kk3.trans (kk4.trans kk5))))
    go_wp2_with fail
    with_reducible refine HE.out.mono ?_
    rintro e w6 ⟨rfl, hb6⟩
    have kk6 : Kp w5 w6 := Kp.of hb6
    clear hb6
    go_wp2
    go_ret
    exact ⟨rfl, (kk1.trans (kk2.trans (kk3.trans (kk4.trans (kk5.trans kk6))))).bel⟩
end Go.Proofs.YtfojphaemfbfnaaDoor
namespace Go.Proofs.YtfojphaemfbfnaaDoor
open Go.ChangeShapes Go.WideShapes Go.ChangeAt Go.RowKit Go.Deep
set_option linter.unusedVariables false
set_option linter.unusedSimpArgs false

set_option maxRecDepth 100000 in
theorem skipRuns_lifted (os : Os) (started : os.Started) (H : Type) (enc : TypeId × Value → H) :
    ReturnsInHanded {} Tryd.checked os 4 .any (fun w args => (Rows.skipRunsSpec.pre enc Tryd.prog Tryd.f4 Rows.skipRunsRow.domain false w args ∧ laidMetH Tryd.prog ZLaid w) ∧ sizedMet enc Tryd.prog Tryd.f4 (OpenSpec.ofChange Rows.skipRunsSpec) false w args) (Rows.skipRunsSpec.post enc Tryd.prog Tryd.f4 false true false false) := by
  refine returnsInHanded_of_change_and (C := Tryd.checked) (X := fun w _ => laidMetH Tryd.prog ZLaid w) (fun _ _ _ hh h => h.of_heap hh) own started (by kernel_rfl) Tryd.func4
    (ChangeSpec.witness_at (enc := enc) (C := Tryd.checked) (os := os) (X := fun w _ => laidMetH Tryd.prog ZLaid w) false (laidWorldZ os) #[.slice none 0 0] 8 rfl (by kernel_rfl) (by kernel_rfl) (by kernel_rfl) (by kernel_rfl) (by kernel_rfl) (laidZ_met os _)) ?_
  intro W base args ds gs before hval0 hW hcnd _ hL _
  have hval : ∀ (j : Nat) t v, Tryd.f4.params[j]? = some t → args[j]? = some v → Value.okWide Tryd.prog W .any base t v := hval0
  have hW' := hW
  obtain ⟨p, q, hA0, hV, rfl, hfz, hnd⟩ := hW
  have hA : DataW.TrodAll enc Tryd.prog W 0 (fun _ => true) true Tryd.f4.params.toList args.toList ds p := hA0
  rw [Tryd.params4] at hA hval
  obtain ⟨v0, vs0, d0, ds0, p0, q0, hargs, rfl, rfl, h0, r0⟩ := trodAll_cons hA
  obtain ⟨rfl, rfl, rfl⟩ := trodAll_nil r0
  obtain rfl : args = #[v0] := by cases args; simp_all
  obtain ⟨rfl, rfl⟩ := trodVars_none hV
  obtain ⟨a0, n0, c0, rfl⟩ := okWide_slice Tryd.underlying40 (hval 0 40 v0 rfl rfl)
  have lt0 : ∀ x ∈ p0, x.block < W.heap.size := by obtain ⟨m, hm⟩ := h0; exact DataW.trod_lt m _ _ _ hm
  obtain ⟨l0, w0⟩ := arg_ops h0
  clear hA0 hval0
  refine (skipRuns_walk l0 _ W w0 (db_of_laid hL)).mono fun e W' ⟨he, bel⟩ => ?_
  subst he
  exact ⟨_, rfl, _, _, _, [], _, [], hW', trodAll_mk1 (shut_bool Tryd.underlying4 _), (trodAll_cons_mk (Below.trod laidOut (by kernel_rfl) (of_decide_eq_true (by kernel_rfl)) h0 bel lt0) trodAll_mk0), rfl, bel.frame _, fun h => by cases h⟩

set_option maxRecDepth 100000 in
set_option maxHeartbeats 8000000 in
theorem skipRuns_closed : joinedFacts Tryd.checked.prog 4 Tryd.f4 Rows.skipRunsSpec Rows.skipRunsRow = true := by
  unfold joinedFacts
  repeat' (with_reducible refine and_true_of ?_ ?_)
  all_goals (as_aux_lemma => kernel_rfl)
theorem skipRuns_over : Rows.skipRunsRow.holds Tryd.pinned (OpenSpec.ofChange Rows.skipRunsSpec) :=
  OpenClaim.holds_of_wide 4 Tryd.f4 rfl rfl rfl rfl rfl rfl rfl ⟨rfl, rfl, rfl, rfl, rfl⟩ rfl rfl rfl rfl rfl (by as_aux_lemma => kernel_rfl) Tryd.func4 skipRuns_closed
    (of_decide_eq_true (by as_aux_lemma => kernel_rfl)) (by as_aux_lemma => unfold Func.isWrapper; first | (rw [if_pos (by decide +kernel)]; kernel_rfl) | (rw [if_neg (by decide +kernel)]; exact ⟨rfl, rfl⟩))
    (fun os started H enc _ => skipRuns_lifted os started H enc)
set_option maxRecDepth 100000 in
theorem skipRuns_proved : Rows.SkipRunsCardSaid :=
  Claim7.holds_tied_plain_at .later [] [.data] true _ false skipRuns_over (fun _ h => by cases h) (by kernel_rfl) (fun _ h => by cases h) skipRuns_row_tie rfl ⟨rfl, rfl⟩ (by kernel_rfl) rfl
    (fun f fn hf hfn => by
      obtain rfl : f = 4 := Option.some.inj ((show Tryd.prog.funcNamed "hedgewright/hedglaw.SkipRuns" = some 4 by kernel_rfl).symm.trans hf) |>.symm
      obtain rfl : fn = Tryd.f4 := (Option.some.inj (Tryd.func4.symm.trans hfn)).symm
      exact ⟨by kernel_rfl, fun j t ht => by
        have h : (Tryd.f4.params.toList.all fun t => !Tryd.prog.wantsStandIn t) = true := by kernel_rfl
        have hm : t ∈ Tryd.f4.params.toList := by
          rw [Array.mem_toList_iff]
          exact Array.mem_of_getElem? ht
        have h2 : Tryd.prog.wantsStandIn t = false := by simpa using List.all_eq_true.1 h t hm
        exact h2⟩)
    (by kernel_rfl)
#print axioms skipRuns_proved
end Go.Proofs.YtfojphaemfbfnaaDoor
