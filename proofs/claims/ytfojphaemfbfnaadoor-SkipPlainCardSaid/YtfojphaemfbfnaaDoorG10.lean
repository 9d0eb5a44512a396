/-
  plain.Run: what it answers. Conditions: the list of ops reads as ops (RD).
  hedgref.SameSpots, hedgref.SameInts, slices.Equal: what they answer. Conditions: the lists read as l and m (RD).
  hedgkeep.plainLives: what it answers; plain laws on what Do answers. Conditions: none.
  Plain laws: what Do answers, kind by kind. No program. Conditions: of each.
  Rows above rows: what putting and cutting a tower makes of the links, row by row. No program. Conditions: none.
-/
import Derived.Test.YtfojphaemfbfnaaDoorG9
import Derived.Test.YtfojphaemfbfnaaDoorG6
import Derived.Test.YtfojphaemfbfnaaDoorG5

namespace Go.Proofs.YtfojphaemfbfnaaDoor
open Go.ChangeShapes Go.WideShapes Go.ChangeAt Go.RowKit
set_option linter.unusedVariables false
set_option linter.unusedSimpArgs false

def runS (s : List IP × List An) (o : O3) : List IP × List An := ((doA s.1 o.1 o.2.1 o.2.2).1, s.2 ++ [(doA s.1 o.1 o.2.1 o.2.2).2])
def runL (ops : List O3) : List IP × List An := ops.foldl runS ([], [])
def runOf (ops : List O3) : List IP × List An × Int := if ops.length > 300 then ([], [], 2) else ((runL ops).1, (runL ops).2, 0)
theorem runL_take (ops : List O3) (k : Nat) (h : k < ops.length) : runL (ops.take (k + 1)) = runS (runL (ops.take k)) ops[k] := by
  rw [List.take_succ_eq_append_getElem h, runL, List.foldl_append]; rfl
theorem runL_len (ops : List O3) (k : Nat) (h : k ≤ ops.length) : (runL (ops.take k)).2.length = k := by
  induction k with
  | zero => rfl
  | succ k ih =>
    rw [runL_take ops k (by omega), runS, List.length_append, ih (by omega)]; rfl
def RunPost (r : List IP × List An × Int) (w : World) (e : Ending) (w' : World) : Prop := ∃ v u, e = .returned (.tuple #[v, u, .int .i64 r.2.2]) ∧ RD w' ePair v r.1 ∧ RD w' eAns u r.2.1 ∧ Below w.heap.size w w'
def RnRel (ops : List O3) (w : World) (lv ov iv : Value) (wr : World) : Prop :=
  ∃ k : Nat, k ≤ ops.length ∧ iv = .int .i64 k ∧ OW wr w.heap.size 73 ePair lv (runL (ops.take k)).1 ∧ OW wr w.heap.size 50 eAns ov (runL (ops.take k)).2 ∧ Kp w wr

set_option maxRecDepth 100000 in
set_option maxHeartbeats 4000000 in
theorem run_any (ops : List O3) (v : Value) (w : World) (hr : RD w eOp v ops) : Calls Tryd.prog 27 #[v] w (RunPost (runOf ops) w) := by
  obtain ⟨A, c, rfl, hc, hm⟩ := hr.shape
  have HR := hide hr
  clear hr
  by_cases hlen : ops.length > 300
  · have H1 : Hid (runOf ops = ([], [], 2)) := hide (by rw [runOf, if_pos hlen])
    go_enter Tryd.func27, Tryd.ntmps27
    go_wp2
    go_ret3
    exact ⟨_, _, by rw [H1.out]; rfl, by rw [H1.out]; exact RD.nil, by rw [H1.out]; exact RD.nil, Below.refl _ _⟩
  · have H1 : Hid (runOf ops = ((runL ops).1, (runL ops).2, 0)) := hide (by rw [runOf, if_neg hlen])
    go_enter Tryd.func27, Tryd.ntmps27
    go_wp2
    go_loopw [5, 6, 16] (RnRel ops w) (fun _ _ i _ => ops.length - (intOf i).toNat)
    case atStart => exact ⟨0, by omega, rfl, OW.nil, OW.nil, Kp.refl _⟩
    case round =>
      obtain ⟨k, hk, rfl, hl, ho, hkp⟩ := hrel
      have hi := ho.hi
      have HLO := hide ho.lo
      have HL := hide hl
      have HO := hide ho
      have hol := runL_len ops k hk
      obtain ⟨A6, c6, hv6, hc6, hm6⟩ := ho.rd.shape
      rw [hol] at hv6 hc6
      subst hv6
      clear hl ho
      by_cases hlt : k < ops.length
      · obtain ⟨b, o, rfl, _, x0, x1, x2⟩ := (HR.out.kp hkp).op hlt
        have hst := runL_take ops k hlt
        obtain ⟨S, hS⟩ : ∃ S, S = runL (ops.take k) := ⟨_, rfl⟩
        rw [← hS] at HL HO hst hol
        obtain ⟨D, hD⟩ : ∃ D, D = doA S.1 ops[k].1 ops[k].2.1 ops[k].2.2 := ⟨_, rfl⟩
        have HST : Hid (runL (ops.take (k + 1)) = (D.1, S.2 ++ [D.2])) := hide (by rw [hst, runS, hD])
        have HD := hide (fun W v h => do_any S.1 ops[k].1 ops[k].2.1 ops[k].2.2 v W h)
        rw [← hD] at HD
        have HM1 : Hid ((S.2.length + [D.2].length) * 32 ≤ 140737488355328) := hide (by rw [hol]; simp; omega)
        have HM2 : Hid (S.2.length + [D.2].length ≤ maxLen) := hide (by rw [hol]; simp [maxLen]; omega)
        clear hst hD hS hol
        go_wp2_with fail
        refine (HD.out _ _ (HL.out.rd.alloc _)).mono ?_
        rintro e w2 ⟨v2, rfl, hr2, hb2⟩
        have hk2 : Kp wr w2 := (Kp.refl wr).alloc.trans hb2
        have HR2 := hide hr2
        have HO2 := hide (HO.out.kp hk2)
        obtain ⟨dl, da, db, dc, dd⟩ := D
        have hkw : Kp w w2 := hkp.trans hk2
        simp only [An.v]
        clear hr2 hb2
        go_wp2_with (at_builtin; (with_reducible refine list_app (B := w.heap.size) (l := S.2) (m := [(⟨da, db, dc, dd⟩ : An)]) row_ans (.slice A6 k c6) ?_ (.tmp 27) (.tmp 29) ?_ ?_ ?_ ?_ HM1.out HM2.out ?_ ?_); (with_reducible rfl); (with_reducible rfl); rfl; ((focus ((with_reducible apply OW.alloc); (with_reducible apply OW.alloc); exact HO2.out))); (show RD _ _ (.slice (some ⟨_, 0, none⟩) 1 1) _; (focus ((repeat (first | (with_reducible assumption) | exact RD.new1 _ rfl | (refine RD.new1e _ ?_ rfl; simp; done) | (with_reducible apply RD.alloc) | (with_reducible apply RD.drew) | (with_reducible apply RD.drewN) | ((with_reducible apply RD.belowR); (with_reducible assumption)))); done))); (exact Kp.size (w := w) (by (focus ((repeat (first | (with_reducible assumption) | (with_reducible exact Kp.refl _) | (with_reducible apply Kp.drew) | (with_reducible apply Kp.drewN) | ((with_reducible apply Kp.setR); (focus (first | (with_reducible assumption) | (simp; done) | (simp; omega)))) | (with_reducible apply Kp.alloc) | ((with_reducible apply Kp.call); (with_reducible assumption)) | ((with_reducible apply Kp.app); (with_reducible assumption)))); done)))); intro v3 w3 ho3 hg3 hat3)
        go_roundw
        case rel =>
          refine ⟨k + 1, by omega, by go_num, ?_, by rw [HST.out]; exact ho3, (by (focus ((repeat (first | (with_reducible assumption) | (with_reducible exact Kp.refl _) | (with_reducible apply Kp.drew) | (with_reducible apply Kp.drewN) | ((with_reducible apply Kp.setR); (focus (first | (with_reducible assumption) | (simp; done) | (simp; omega)))) | (with_reducible apply Kp.alloc) | ((with_reducible apply Kp.call); (with_reducible assumption)) | ((with_reducible apply Kp.app); (with_reducible assumption)))); done)))⟩
          rw [HST.out]
          have hap := Lo.apart HLO.out (Hi.mono HR2.out.hi (by simp))
          exact (OW.kept ((HR2.out.alloc _).alloc _) hg3 hap).more (by have := hkp.size; simp; omega)
        case measure => simp [intOf]; omega
      · have hkl : k = ops.length := by omega
        subst hkl
        have hS : Hid (ops.take ops.length = ops) := hide (by simp)
        clear hol
        go_wp2
        go_ret3
        exact ⟨_, _, by rw [H1.out]; rfl, by rw [H1.out, ← hS.out]; simpa using HL.out.rd, by rw [H1.out, ← hS.out]; simpa using HO.out.rd, hkp.bel⟩
end Go.Proofs.YtfojphaemfbfnaaDoor
namespace Go.Proofs.YtfojphaemfbfnaaDoor
open Go.ChangeShapes Go.WideShapes Go.ChangeAt Go.RowKit
set_option linter.unusedVariables false
set_option linter.unusedSimpArgs false

theorem eq_of_take {α : Type} {l m : List α} (hl : l.length = m.length) (h : ∀ j (h1 : j < l.length) (h2 : j < m.length), l[j] = m[j]) : l = m :=
  List.ext_getElem hl h

def SRel {α : Type} (l m : List α) (w : World) (i : Value) (wr : World) : Prop :=
  ∃ k : Nat, k ≤ l.length ∧ i = .int .i64 k ∧ (∀ j (h1 : j < l.length) (h2 : j < m.length), j < k → l[j] = m[j]) ∧ Below w.heap.size w wr
theorem SRel.on {α : Type} {l m : List α} {w wr' : World} {k : Nat} (h1 : k < l.length) (h2 : k < m.length) (h : ∀ j (h1 : j < l.length) (h2 : j < m.length), j < k → l[j] = m[j]) (he : l[k] = m[k])
    (hb : Below w.heap.size w wr') : SRel l m w (.int .i64 (k + 1 : Nat)) wr' :=
  ⟨k + 1, h1, rfl, fun j a b hj => by
    rcases Nat.lt_or_ge j k with hj' | hj'
    · exact h j a b hj'
    · obtain rfl : j = k := by omega
      exact he, hb⟩

set_option maxHeartbeats 400000 in
theorem sameInts_any (l m : List Int) (v u : Value) (w : World) (hl : RD w eInt v l) (hm : RD w eInt u m) :
    Calls Tryd.prog 39 #[v, u] w (Ret (.bool (decide (l = m))) w) := by
  obtain ⟨A, c, rfl, hc, hc'⟩ := hl.shape
  obtain ⟨A2, c2, rfl, hc2, hc2'⟩ := hm.shape
  have HL := hide hl
  have HM := hide hm
  clear hl hm
  by_cases hlen : l.length = m.length
  · have hb : ((l.length : Int) == (m.length : Int)) = true := by simp; omega
    have hn : ((l.length : Int) != (m.length : Int)) = false := by simp; omega
    have hlen' := hide hlen
    have g1 : l.length ≤ m.length := by omega
    have g2 : m.length ≤ l.length := by omega
    clear hlen
    go_enter Tryd.func39, Tryd.ntmps39
    go_wp2
    go_loopw [13] (SRel l m w) (fun i wr => l.length - (intOf i).toNat)
    case atStart => exact ⟨0, by omega, rfl, fun _ _ _ h => by omega, Below.refl _ _⟩
    case round =>
      obtain ⟨k, hk, rfl, hall, hbel⟩ := hrel
      have HA := hide hall
      clear hall
      by_cases hlt : k < l.length
      · obtain ⟨b, o, rfl, hb, c0⟩ := (HL.out.below hbel).int hlt
        obtain ⟨b2, o2, rfl, hb2, d0⟩ := (HM.out.below hbel).int (k := k) (by omega)
        have hlt2 : k < m.length := by omega
        by_cases he : l[k] = m[k]
        · have e1 : (l[k] != m[k]) = false := by simp [he]
          have he' := hide he
          clear he
          go_wp2_with fail
          go_quiet (fail)
          go_wp2
          go_roundw
          case rel => exact SRel.on hlt hlt2 HA.out he'.out (by repeat' (first | exact Below.refl _ _ | (with_reducible assumption) | apply Below.drew | apply below_drewN | apply Below.alloc | apply Below.setCell)
                                                                all_goals (first | omega | (simp; omega) | (simp; done)))
          case measure => simp [intOf]; omega
        · have hf : decide (l = m) = false := by
            simp only [decide_eq_false_iff_not]
            rintro rfl
            exact he rfl
          have e1 : (l[k] != m[k]) = true := by simp [he]
          have hf' := hide hf
          clear he hf
          go_wp2_with fail
          go_quiet (fail)
          go_wp2
          go_ret
          exact ⟨by rw [hf'.out]; rfl, (by repeat' (first | exact Below.refl _ _ | (with_reducible assumption) | apply Below.drew | apply below_drewN | apply Below.alloc | apply Below.setCell)
                                           all_goals (first | omega | (simp; omega) | (simp; done)))⟩
      · have ht : decide (l = m) = true := by
          simp only [decide_eq_true_eq]
          exact eq_of_take hlen'.out fun j a b => HA.out j a b (by omega)
        have ht' := hide ht
        clear ht
        go_wp2
        go_ret
        exact ⟨by rw [ht'.out]; rfl, hbel⟩
  · have hb : ((l.length : Int) == (m.length : Int)) = false := by simp; omega
    have hn : ((l.length : Int) != (m.length : Int)) = true := by simp; omega
    go_enter Tryd.func39, Tryd.ntmps39
    go_wp2
    go_ret
    exact ⟨by rw [decide_eq_false (fun h => hlen (by rw [h]))]; rfl, Below.refl _ _⟩
theorem sameInts_to (l m : List Int) (r : Bool) (v u : Value) (w : World) (hl : RD w eInt v l) (hm : RD w eInt u m) (h : decide (l = m) = r) :
    Calls Tryd.prog 39 #[v, u] w (Ret (.bool r) w) := by
  subst h
  exact sameInts_any l m v u w hl hm
set_option maxHeartbeats 400000 in
theorem eqInts_any (l m : List Int) (v u : Value) (w : World) (hl : RD w eInt v l) (hm : RD w eInt u m) :
    Calls Tryd.prog 28 #[v, u] w (Ret (.bool (decide (l = m))) w) := by
  obtain ⟨A, c, rfl, hc, hc'⟩ := hl.shape
  obtain ⟨A2, c2, rfl, hc2, hc2'⟩ := hm.shape
  have HL := hide hl
  have HM := hide hm
  clear hl hm
  by_cases hlen : l.length = m.length
  · have hb : ((l.length : Int) == (m.length : Int)) = true := by simp; omega
    have hn : ((l.length : Int) != (m.length : Int)) = false := by simp; omega
    have hlen' := hide hlen
    have g1 : l.length ≤ m.length := by omega
    have g2 : m.length ≤ l.length := by omega
    clear hlen
    go_enter Tryd.func28, Tryd.ntmps28
    go_wp2
    go_loopw [13] (SRel l m w) (fun i wr => l.length - (intOf i).toNat)
    case atStart => exact ⟨0, by omega, rfl, fun _ _ _ h => by omega, Below.refl _ _⟩
    case round =>
      obtain ⟨k, hk, rfl, hall, hbel⟩ := hrel
      have HA := hide hall
      clear hall
      by_cases hlt : k < l.length
      · obtain ⟨b, o, rfl, hb, c0⟩ := (HL.out.below hbel).int hlt
        obtain ⟨b2, o2, rfl, hb2, d0⟩ := (HM.out.below hbel).int (k := k) (by omega)
        have hlt2 : k < m.length := by omega
        by_cases he : l[k] = m[k]
        · have e1 : (l[k] != m[k]) = false := by simp [he]
          have he' := hide he
          clear he
          go_wp2_with fail
          go_quiet (fail)
          go_wp2
          go_roundw
          case rel => exact SRel.on hlt hlt2 HA.out he'.out (by repeat' (first | exact Below.refl _ _ | (with_reducible assumption) | apply Below.drew | apply below_drewN | apply Below.alloc | apply Below.setCell)
                                                                all_goals (first | omega | (simp; omega) | (simp; done)))
          case measure => simp [intOf]; omega
        · have hf : decide (l = m) = false := by
            simp only [decide_eq_false_iff_not]
            rintro rfl
            exact he rfl
          have e1 : (l[k] != m[k]) = true := by simp [he]
          have hf' := hide hf
          clear he hf
          go_wp2_with fail
          go_quiet (fail)
          go_wp2
          go_ret
          exact ⟨by rw [hf'.out]; rfl, (by repeat' (first | exact Below.refl _ _ | (with_reducible assumption) | apply Below.drew | apply below_drewN | apply Below.alloc | apply Below.setCell)
                                           all_goals (first | omega | (simp; omega) | (simp; done)))⟩
      · have ht : decide (l = m) = true := by
          simp only [decide_eq_true_eq]
          exact eq_of_take hlen'.out fun j a b => HA.out j a b (by omega)
        have ht' := hide ht
        clear ht
        go_wp2
        go_ret
        exact ⟨by rw [ht'.out]; rfl, hbel⟩
  · have hb : ((l.length : Int) == (m.length : Int)) = false := by simp; omega
    have hn : ((l.length : Int) != (m.length : Int)) = true := by simp; omega
    go_enter Tryd.func28, Tryd.ntmps28
    go_wp2
    go_ret
    exact ⟨by rw [decide_eq_false (fun h => hlen (by rw [h]))]; rfl, Below.refl _ _⟩
theorem eqInts_to (l m : List Int) (r : Bool) (v u : Value) (w : World) (hl : RD w eInt v l) (hm : RD w eInt u m) (h : decide (l = m) = r) :
    Calls Tryd.prog 28 #[v, u] w (Ret (.bool r) w) := by
  subst h
  exact eqInts_any l m v u w hl hm
end Go.Proofs.YtfojphaemfbfnaaDoor
namespace Go.Proofs.YtfojphaemfbfnaaDoor
open Go.ChangeShapes Go.WideShapes Go.ChangeAt Go.RowKit
set_option linter.unusedVariables false
set_option linter.unusedSimpArgs false

theorem plainLives_run : runOf [(1, 7, 1), (1, 3, 2), (4, 3, 0), (3, 7, 0)] = ([(3, 2)], [⟨0, 0, 0, false⟩, ⟨0, 0, 0, false⟩, ⟨0, 7, 1, true⟩, ⟨0, 0, 1, true⟩], 0) := by decide +kernel
end Go.Proofs.YtfojphaemfbfnaaDoor
namespace Go.Proofs.YtfojphaemfbfnaaDoor
open Go.ChangeShapes Go.WideShapes Go.ChangeAt Go.RowKit
set_option linter.unusedVariables false
set_option linter.unusedSimpArgs false

def getL (l : List IP) (key : Int) : An := if hasKey l key then ⟨0, 0, gv l (below l key), true⟩ else ⟨0, 0, 0, false⟩
def cutL (l : List IP) (key : Int) : List IP × An := if hasKey l key then (l.take (below l key) ++ l.drop (below l key + 1), ⟨0, 0, gv l (below l key), true⟩) else (l, ⟨0, 0, 0, false⟩)
def nextL (l : List IP) (key : Int) : An := toldL l (if hasKey l key then (below l key : Int) + 1 else below l key)
section
variable {l : List IP} (key val : Int)
theorem doA_bad (kind : Int) (h : mapRight l ≠ 0) : doA l kind key val = ([], ⟨mapRight l, 0, 0, false⟩) := by rw [doA, if_neg h]
theorem doA_arg (kind : Int) (h : mapRight l = 0) (h5 : kind ≤ 5) (hk : ¬ (0 ≤ key ∧ key ≤ 1000000)) : doA l kind key val = (l, ⟨1, 0, 0, false⟩) := by rw [doA, if_pos h, doL, if_pos (.inr ⟨h5, hk⟩)]
theorem doA_put (h : mapRight l = 0) (hk : 0 ≤ key ∧ key ≤ 1000000) : doA l 1 key val = putL l key val := by rw [doA, if_pos h, doL, if_neg (by omega)]; rfl
theorem doA_get (h : mapRight l = 0) (hk : 0 ≤ key ∧ key ≤ 1000000) : doA l 2 key val = (l, getL l key) := by rw [doA, if_pos h, doL, if_neg (by omega)]; rfl
theorem doA_cut (h : mapRight l = 0) (hk : 0 ≤ key ∧ key ≤ 1000000) : doA l 3 key val = cutL l key := by rw [doA, if_pos h, doL, if_neg (by omega)]; rfl
theorem doA_next (h : mapRight l = 0) (hk : 0 ≤ key ∧ key ≤ 1000000) : doA l 4 key val = (l, nextL l key) := by rw [doA, if_pos h, doL, if_neg (by omega)]; rfl
theorem doA_prev (h : mapRight l = 0) (hk : 0 ≤ key ∧ key ≤ 1000000) : doA l 5 key val = (l, toldL l ((below l key : Int) - 1)) := by rw [doA, if_pos h, doL, if_neg (by omega)]; rfl
theorem doA_count (h : mapRight l = 0) : doA l 6 key val = (l, ⟨0, 0, below l key, true⟩) := by rw [doA, if_pos h, doL, if_neg (by omega)]; rfl
theorem doA_nth (h : mapRight l = 0) : doA l 7 key val = (l, toldL l key) := by rw [doA, if_pos h, doL, if_neg (by omega)]; rfl
end
theorem rise_of {l : List IP} (h : mapRight l = 0) : Rise l := fun i j hi hj hij => mapRight_rise l h i j hi hj hij
theorem below_at {l : List IP} (h : Rise l) (k : Nat) (hk : k < l.length) : below l l[k].1 = k := by
  have h1 := below_cut l h l[k].1
  rcases Nat.lt_trichotomy (below l l[k].1) k with h2 | h2 | h2
  · have h3 := h1 (below l l[k].1) (by omega)
    have := h (below l l[k].1) k (by omega) hk h2
    omega
  · exact h2
  · have := (h1 k hk).1 h2; omega
theorem below_mono {l : List IP} {a b : Int} (h : a ≤ b) : below l a ≤ below l b := by
  unfold below
  induction l with
  | nil => simp
  | cons p t ih =>
    simp only [List.filter_cons]
    by_cases h1 : p.1 < a
    · rw [if_pos (by simpa using h1), if_pos (by simp; omega)]; simpa using ih
    · rw [if_neg (by simpa using h1)]
      split
      · simp; omega
      · exact ih
theorem do_to (l : List IP) (kind key val : Int) (R : List IP × An) (hR : doA l kind key val = R) (v : Value) (w : World) (hr : RD w ePair v l) :
    Calls Tryd.prog 45 #[v, .agg #[.int .i64 kind, .int .i64 key, .int .i64 val]] w (DoPost R w) := by
  subst hR
  exact do_any l kind key val v w hr
end Go.Proofs.YtfojphaemfbfnaaDoor
namespace Go.Proofs.YtfojphaemfbfnaaDoor
open Go.ChangeShapes Go.WideShapes Go.ChangeAt Go.RowKit
set_option linter.unusedVariables false
set_option linter.unusedSimpArgs false

/-- The pairs of a stack. -/
def pL (ts : List Tw) : List IP := (ts.drop 1).map Tw.p
theorem pL_len (ts : List Tw) : (pL ts).length = ts.length - 1 := by simp [pL]
theorem pL_at (ts : List Tw) (k : Nat) (h : k < (pL ts).length) : (pL ts)[k] = (tw ts (k + 1)).p := by
  have hk : k + 1 < ts.length := by rw [pL_len] at h; omega
  simp only [pL, List.getElem_map, List.getElem_drop]
  rw [tw, List.getD_eq_getElem?_getD, show k + 1 = 1 + k from by omega, List.getElem?_eq_getElem (by omega)]
  rfl
section
variable {w : World} {s : Nat} {ts : List Tw} {B : Nat} {key : Int}
theorem SK.rise (h : SK w s ts B) : Rise (pL ts) := fun i j hi hj hij => by
  rw [pL_at _ _ hi, pL_at _ _ hj]
  rw [pL_len] at hi hj
  exact h.up (i + 1) (j + 1) (by omega) (by omega) (by omega)
theorem isP_pF (h : SK w s ts B) {r : Nat} (hr : r < 12) : IsP ts key r (pF ts key r) := by
  obtain ⟨a1, a2, a3⟩ : pF ts key r < ts.length ∧ r < (tw ts (pF ts key r)).h ∧ (pF ts key r = 0 ∨ (tw ts (pF ts key r)).p.1 < key) := by
    rcases pFn_is (ts := ts) (key := key) (r := r) (by rw [h.head]; omega) ts.length (Nat.le_refl _) with e | ⟨h1, h2, h3⟩
    · have e : pF ts key r = 0 := e
      rw [e, h.head]
      exact ⟨h.pos, by omega, .inl rfl⟩
    · exact ⟨h1, h2, .inr h3⟩
  refine ⟨a1, a2, a3, fun m h1 h2 h3 => ?_⟩
  have key_of : ∀ n, n ≤ ts.length → m < n → pFn ts key r n < m → key ≤ (tw ts m).p.1 := by
    intro n
    induction n with
    | zero => intro _ h; omega
    | succ n ih =>
      intro hn hm hp
      unfold pFn at hp
      split at hp
      · omega
      · next hc =>
        by_cases e : m = n
        · subst e
          exact Int.not_lt.1 (fun hlt => hc ⟨h3, hlt⟩)
        · exact ih (by omega) (by omega) hp
  exact key_of ts.length (Nat.le_refl _) h2 h1
theorem pF_below (h : SK w s ts B) : pF ts key 0 = below (pL ts) key := by
  have hb := below_cut (pL ts) h.rise key
  have hl : below (pL ts) key ≤ (pL ts).length := List.length_filter_le _ _
  have hl2 := pL_len ts
  have hpos := h.pos
  refine IsP.eq ⟨by omega, (h.h12 (by omega)).1, ?_, fun m h1 h2 h3 => ?_⟩ (.inr trivial)
  · by_cases e : below (pL ts) key = 0
    · exact .inl e
    · have := (hb (below (pL ts) key - 1) (by omega)).1 (by omega)
      rw [pL_at, show below (pL ts) key - 1 + 1 = below (pL ts) key from by omega] at this
      exact .inr this
  · have h4 : ¬ (pL ts)[m - 1].1 < key := fun hc => by have := (hb (m - 1) (by omega)).2 hc; omega
    rw [pL_at, show m - 1 + 1 = m from by omega] at h4
    omega
theorem pF_le (h : SK w s ts B) {r : Nat} (hr : r < 12) : pF ts key r ≤ pF ts key 0 := by
  obtain ⟨a1, a2, a3, a4⟩ := isP_pF (key := key) h hr
  obtain ⟨b1, b2, b3, b4⟩ := isP_pF (key := key) h (r := 0) (by omega)
  by_cases e : pF ts key 0 < pF ts key r
  · have := b4 _ e a1 (by omega)
    rcases a3 with a3 | a3 <;> omega
  · omega
/-- Between the last lower tower of a row and the place of the key no tower has the row. -/
theorem pF_gap (h : SK w s ts B) {r : Nat} (hr : r < 12) : ∀ x, pF ts key r < x → x < pF ts key 0 + 1 → (tw ts x).h ≤ r := fun x h1 h2 => by
  obtain ⟨a1, a2, a3, a4⟩ := isP_pF (key := key) h hr
  obtain ⟨b1, b2, b3, b4⟩ := isP_pF (key := key) h (r := 0) (by omega)
  by_cases e : r < (tw ts x).h
  · have := a4 x h1 (by omega) e
    by_cases e2 : x = pF ts key 0
    · subst e2; rcases b3 with b3 | b3 <;> omega
    · have := h.up x (pF ts key 0) (by omega) (by omega) b1
      rcases b3 with b3 | b3 <;> omega
  · omega
end
def Fq (ts : List Tw) (c : Nat) (t : Tw) (q : Nat) : Nat → Nat → Option Addr × Nat := fun j r =>
  if r < q then lnk (insT ts c t) j r else if j = c then (none, 0) else lnk ts (if j < c then j else j - 1) r
section
variable {ts : List Tw} {c q p : Nat} {t : Tw}
theorem fq_self (j : Nat) : Fq ts c t q j q = if j = c then (none, 0) else lnk ts (if j < c then j else j - 1) q := by
  unfold Fq; rw [if_neg (show ¬ q < q by omega)]
theorem fq_new {r : Nat} (j : Nat) (h : r < q) : Fq ts c t q j r = lnk (insT ts c t) j r := by unfold Fq; rw [if_pos h]
theorem fq_big {r : Nat} (j : Nat) (h : ¬ r < q) : Fq ts c t q j r = if j = c then (none, 0) else lnk ts (if j < c then j else j - 1) r := by unfold Fq; rw [if_neg h]
theorem fq_step (hc : c ≤ ts.length) (h0 : 0 < c) (hp : p < c) (hpq : q < (tw ts p).h) (hb : ∀ x, p < x → x < c → (tw ts x).h ≤ q) (F : Nat → Nat → Option Addr × Nat)
    (h1 : q < t.h → F = upd (upd (Fq ts c t q) c q ((lnk ts p q).1, p + (lnk ts p q).2 + 1 - c)) p q (some ⟨t.b, 0, none⟩, c - p))
    (h2 : t.h ≤ q → F = upd (Fq ts c t q) p q ((lnk ts p q).1, (lnk ts p q).2 + 1)) :
    ∀ j r, j < (insT ts c t).length → r < (tw (insT ts c t) j).h → F j r = Fq ts c t (q + 1) j r := by
  intro j r hj hr
  rw [insT_len hc] at hj
  by_cases er : r = q
  · subst er
    rw [fq_new j (show r < r + 1 by omega)]
    by_cases hh : r < t.h
    · rw [h1 hh]
      by_cases ej : j = p
      · subst ej; rw [upd, if_pos rfl, upd1, if_pos rfl, lnk_ins_high hc hp hb hh]
      · rw [upd, if_neg ej]
        by_cases ec : j = c
        · subst ec; rw [upd, if_pos rfl, upd1, if_pos rfl, lnk_ins_at hc h0 hp hb]
        · rw [upd, if_neg ec, fq_self, if_neg ec]
          by_cases el : j < c
          · rw [if_pos el]
            rw [tw_ins hc, if_pos el] at hr
            have hjp : j < p := by
              by_cases e : p < j
              · have := hb j e el; omega
              · omega
            rw [lnk_ins_lt hc hjp hp hpq]
          · rw [if_neg el, lnk_ins_gt hc h0 (by omega) (by omega)]
    · rw [h2 (by omega)]
      by_cases ej : j = p
      · subst ej; rw [upd, if_pos rfl, upd1, if_pos rfl, lnk_ins_low hc hp hb (by omega)]
      · rw [upd, if_neg ej]
        by_cases ec : j = c
        · subst ec
          rw [tw_ins hc, if_neg (by omega), if_pos rfl] at hr
          omega
        · rw [fq_self, if_neg ec]
          by_cases el : j < c
          · rw [if_pos el]
            rw [tw_ins hc, if_pos el] at hr
            have hjp : j < p := by
              by_cases e : p < j
              · have := hb j e el; omega
              · omega
            rw [lnk_ins_lt hc hjp hp hpq]
          · rw [if_neg el, lnk_ins_gt hc h0 (by omega) (by omega)]
  · have key : F j r = Fq ts c t q j r := by
      by_cases hh : q < t.h
      · rw [h1 hh]
        by_cases ej : j = p
        · subst ej
          rw [upd, if_pos rfl, upd1, if_neg er]
          by_cases ec : j = c
          · omega
          · rw [upd, if_neg ec]
        · rw [upd, if_neg ej]
          by_cases ec : j = c
          · subst ec; rw [upd, if_pos rfl, upd1, if_neg er]
          · rw [upd, if_neg ec]
      · rw [h2 (by omega)]
        by_cases ej : j = p
        · subst ej; rw [upd, if_pos rfl, upd1, if_neg er]
        · rw [upd, if_neg ej]
    rw [key]
    by_cases e : r < q
    · rw [fq_new j e, fq_new j (by omega)]
    · rw [fq_big j e, fq_big j (by omega)]
theorem fq_done (ts : List Tw) (c : Nat) (t : Tw) (j r : Nat) (hr : r < 12) : Fq ts c t 12 j r = lnk (insT ts c t) j r := fq_new j hr
theorem fq_old (hp : p < c) : Fq ts c t q p q = lnk ts p q := by rw [fq_self, if_neg (show ¬ p = c by omega), if_pos hp]
end
end Go.Proofs.YtfojphaemfbfnaaDoor
