/-
  plain.Run: what it answers. Conditions: the list of ops reads as ops (RD).
  hedgref.SameSpots, hedgref.SameInts, slices.Equal: what they answer. Conditions: the lists read as l and m (RD).
  hedgkeep.plainLives: what it answers; plain laws on what Do answers. Conditions: none.
  Plain laws: what Do answers, kind by kind. No program. Conditions: of each.
  Plain laws: put, cut, get in words of what lies ahead of a key and behind it. No program. Conditions: none.
  What plain.Do and plain.Run leave is a right map. No program. Conditions: none.
  Of ops that may be and at most 200, half's answers are the plain map's. No program. Conditions: none.
-/
import Derived.Test.YtmhabjjabdambaaG14
import Derived.Test.YtmhabjjabdambaaG11

namespace Go.Proofs.Ytmhabjjabdambaa
open Go.ChangeShapes Go.WideShapes Go.ChangeAt Go.RowKit
set_option linter.unusedVariables false
set_option linter.unusedSimpArgs false

def runS (s : List IP × List An) (o : O3) : List IP × List An := ((doA s.1 o.1 o.2.1 o.2.2).1, s.2 ++ [(doA s.1 o.1 o.2.1 o.2.2).2])
def runL (ops : List O3) : List IP × List An := ops.foldl runS ([], [])
def runOf (ops : List O3) : List IP × List An × Int := if ops.length > 300 then ([], [], 2) else ((runL ops).1, (runL ops).2, 0)
theorem runL_take (ops : List O3) (k : Nat) (h : k < ops.length) : runL (ops.take (k + 1)) = runS (runL (ops.take k)) ops[k] := by
  rw [List.take_succ_eq_append_getElem h, runL, List.foldl_append]; rfl
theorem runL_len (ops : List O3) (k : Nat) (h : k ≤ ops.length) : (runL (ops.take k)).2.length = k := by
  induction k with
  | zero => rfl
  | succ k ih =>
    rw [runL_take ops k (by omega), runS, List.length_append, ih (by omega)]; rfl
def RunPost (r : List IP × List An × Int) (w : World) (e : Ending) (w' : World) : Prop := ∃ v u, e = .returned (.tuple #[v, u, .int .i64 r.2.2]) ∧ RD w' ePair v r.1 ∧ RD w' eAns u r.2.1 ∧ Below w.heap.size w w'
def RnRel (ops : List O3) (w : World) (lv ov iv : Value) (wr : World) : Prop :=
  ∃ k : Nat, k ≤ ops.length ∧ iv = .int .i64 k ∧ OW wr w.heap.size 68 ePair lv (runL (ops.take k)).1 ∧ OW wr w.heap.size 39 eAns ov (runL (ops.take k)).2 ∧ Kp w wr

set_option maxRecDepth 100000 in
set_option maxHeartbeats 4000000 in
theorem run_any (ops : List O3) (v : Value) (w : World) (hr : RD w eOp v ops) : Calls Try.prog 20 #[v] w (RunPost (runOf ops) w) := by
  obtain ⟨A, c, rfl, hc, hm⟩ := hr.shape
  have HR := hide hr
  clear hr
  by_cases hlen : ops.length > 300
  · have H1 : Hid (runOf ops = ([], [], 2)) := hide (by rw [runOf, if_pos hlen])
    go_enter Try.func20, Try.ntmps20
    go_wp2
    go_ret3
    exact ⟨_, _, by rw [H1.out]; rfl, by rw [H1.out]; exact RD.nil, by rw [H1.out]; exact RD.nil, Below.refl _ _⟩
  · have H1 : Hid (runOf ops = ((runL ops).1, (runL ops).2, 0)) := hide (by rw [runOf, if_neg hlen])
    go_enter Try.func20, Try.ntmps20
    go_wp2
    go_loopw [5, 6, 16] (RnRel ops w) (fun _ _ i _ => ops.length - (intOf i).toNat)
    case atStart => exact ⟨0, by omega, rfl, OW.nil, OW.nil, Kp.refl _⟩
    case round =>
      obtain ⟨k, hk, rfl, hl, ho, hkp⟩ := hrel
      have hi := ho.hi
      have HLO := hide ho.lo
      have HL := hide hl
      have HO := hide ho
      have hol := runL_len ops k hk
      obtain ⟨A6, c6, hv6, hc6, hm6⟩ := ho.rd.shape
      rw [hol] at hv6 hc6
      subst hv6
      clear hl ho
      by_cases hlt : k < ops.length
      · obtain ⟨b, o, rfl, _, x0, x1, x2⟩ := (HR.out.kp hkp).op hlt
        have hst := runL_take ops k hlt
        obtain ⟨S, hS⟩ : ∃ S, S = runL (ops.take k) := ⟨_, rfl⟩
        rw [← hS] at HL HO hst hol
        obtain ⟨D, hD⟩ : ∃ D, D = doA S.1 ops[k].1 ops[k].2.1 ops[k].2.2 := ⟨_, rfl⟩
        have HST : Hid (runL (ops.take (k + 1)) = (D.1, S.2 ++ [D.2])) := hide (by rw [hst, runS, hD])
        have HD := hide (fun W v h => do_any S.1 ops[k].1 ops[k].2.1 ops[k].2.2 v W h)
        rw [← hD] at HD
        have HM1 : Hid ((S.2.length + [D.2].length) * 32 ≤ 140737488355328) := hide (by rw [hol]; simp; omega)
        have HM2 : Hid (S.2.length + [D.2].length ≤ maxLen) := hide (by rw [hol]; simp [maxLen]; omega)
        clear hst hD hS hol
        go_wp2_with fail
        refine (HD.out _ _ (HL.out.rd.alloc _)).mono ?_
        rintro e w2 ⟨v2, rfl, hr2, hb2⟩
        have hk2 : Kp wr w2 := (Kp.refl wr).alloc.trans hb2
        have HR2 := hide hr2
        have HO2 := hide (HO.out.kp hk2)
        obtain ⟨dl, da, db, dc, dd⟩ := D
        have hkw : Kp w w2 := hkp.trans hk2
        simp only [An.v]
        clear hr2 hb2
        go_wp2_with (at_builtin; (with_reducible refine list_app (B := w.heap.size) (l := S.2) (m := [(⟨da, db, dc, dd⟩ : An)]) row_ans (.slice A6 k c6) ?_ (.tmp 27) (.tmp 29) ?_ ?_ ?_ ?_ HM1.out HM2.out ?_ ?_); (with_reducible rfl); (with_reducible rfl); rfl; ((focus ((with_reducible apply OW.alloc); (with_reducible apply OW.alloc); exact HO2.out))); (show RD _ _ (.slice (some ⟨_, 0, none⟩) 1 1) _; (focus ((repeat (first | (with_reducible assumption) | exact RD.new1 _ rfl | (refine RD.new1e _ ?_ rfl; simp; done) | (with_reducible apply RD.alloc) | (with_reducible apply RD.drew) | (with_reducible apply RD.drewN) | ((with_reducible apply RD.belowR); (with_reducible assumption)))); done))); (exact Kp.size (w := w) (by (focus ((repeat (first | (with_reducible assumption) | (with_reducible exact Kp.refl _) | (with_reducible apply Kp.drew) | (with_reducible apply Kp.drewN) | ((with_reducible apply Kp.setR); (focus (first | (with_reducible assumption) | (simp; done) | (simp; omega)))) | (with_reducible apply Kp.alloc) | ((with_reducible apply Kp.call); (with_reducible assumption)) | ((with_reducible apply Kp.app); (with_reducible assumption)))); done)))); intro v3 w3 ho3 hg3 hat3)
        go_roundw
        case rel =>
          refine ⟨k + 1, by omega, by go_num, ?_, by rw [HST.out]; exact ho3, (by (focus ((repeat (first | (with_reducible assumption) | (with_reducible exact Kp.refl _) | (with_reducible apply Kp.drew) | (with_reducible apply Kp.drewN) | ((with_reducible apply Kp.setR); (focus (first | (with_reducible assumption) | (simp; done) | (simp; omega)))) | (with_reducible apply Kp.alloc) | ((with_reducible apply Kp.call); (with_reducible assumption)) | ((with_reducible apply Kp.app); (with_reducible assumption)))); done)))⟩
          rw [HST.out]
          have hap := Lo.apart HLO.out (Hi.mono HR2.out.hi (by simp))
          exact (OW.kept ((HR2.out.alloc _).alloc _) hg3 hap).more (by have := hkp.size; simp; omega)
        case measure => simp [intOf]; omega
      · have hkl : k = ops.length := by omega
        subst hkl
        have hS : Hid (ops.take ops.length = ops) := hide (by simp)
        clear hol
        go_wp2
        go_ret3
        exact ⟨_, _, by rw [H1.out]; rfl, by rw [H1.out, ← hS.out]; simpa using HL.out.rd, by rw [H1.out, ← hS.out]; simpa using HO.out.rd, hkp.bel⟩
end Go.Proofs.Ytmhabjjabdambaa
namespace Go.Proofs.Ytmhabjjabdambaa
open Go.ChangeShapes Go.WideShapes Go.ChangeAt Go.RowKit
set_option linter.unusedVariables false
set_option linter.unusedSimpArgs false

theorem eq_of_take {α : Type} {l m : List α} (hl : l.length = m.length) (h : ∀ j (h1 : j < l.length) (h2 : j < m.length), l[j] = m[j]) : l = m :=
  List.ext_getElem hl h

def SRel {α : Type} (l m : List α) (w : World) (i : Value) (wr : World) : Prop :=
  ∃ k : Nat, k ≤ l.length ∧ i = .int .i64 k ∧ (∀ j (h1 : j < l.length) (h2 : j < m.length), j < k → l[j] = m[j]) ∧ Below w.heap.size w wr
theorem SRel.on {α : Type} {l m : List α} {w wr' : World} {k : Nat} (h1 : k < l.length) (h2 : k < m.length) (h : ∀ j (h1 : j < l.length) (h2 : j < m.length), j < k → l[j] = m[j]) (he : l[k] = m[k])
    (hb : Below w.heap.size w wr') : SRel l m w (.int .i64 (k + 1 : Nat)) wr' :=
  ⟨k + 1, h1, rfl, fun j a b hj => by
    rcases Nat.lt_or_ge j k with hj' | hj'
    · exact h j a b hj'
    · obtain rfl : j = k := by omega
      exact he, hb⟩

set_option maxHeartbeats 400000 in
theorem sameInts_any (l m : List Int) (v u : Value) (w : World) (hl : RD w eInt v l) (hm : RD w eInt u m) :
    Calls Try.prog 14 #[v, u] w (Ret (.bool (decide (l = m))) w) := by
  obtain ⟨A, c, rfl, hc, hc'⟩ := hl.shape
  obtain ⟨A2, c2, rfl, hc2, hc2'⟩ := hm.shape
  have HL := hide hl
  have HM := hide hm
  clear hl hm
  by_cases hlen : l.length = m.length
  · have hb : ((l.length : Int) == (m.length : Int)) = true := by simp; omega
    have hn : ((l.length : Int) != (m.length : Int)) = false := by simp; omega
    have hlen' := hide hlen
    have g1 : l.length ≤ m.length := by omega
    have g2 : m.length ≤ l.length := by omega
    clear hlen
    go_enter Try.func14, Try.ntmps14
    go_wp2
    go_loopw [13] (SRel l m w) (fun i wr => l.length - (intOf i).toNat)
    case atStart => exact ⟨0, by omega, rfl, fun _ _ _ h => by omega, Below.refl _ _⟩
    case round =>
      obtain ⟨k, hk, rfl, hall, hbel⟩ := hrel
      have HA := hide hall
      clear hall
      by_cases hlt : k < l.length
      · obtain ⟨b, o, rfl, hb, c0⟩ := (HL.out.below hbel).int hlt
        obtain ⟨b2, o2, rfl, hb2, d0⟩ := (HM.out.below hbel).int (k := k) (by omega)
        have hlt2 : k < m.length := by omega
        by_cases he : l[k] = m[k]
        · have e1 : (l[k] != m[k]) = false := by simp [he]
          have he' := hide he
          clear he
          go_wp2_with fail
          go_quiet (fail)
          go_wp2
          go_roundw
          case rel => exact SRel.on hlt hlt2 HA.out he'.out (by repeat' (first | exact Below.refl _ _ | (with_reducible assumption) | apply Below.drew | apply below_drewN | apply Below.alloc | apply Below.setCell)
                                                                all_goals (first | omega | (simp; omega) | (simp; done)))
          case measure => simp [intOf]; omega
        · have hf : decide (l = m) = false := by
            simp only [decide_eq_false_iff_not]
            rintro rfl
            exact he rfl
          have e1 : (l[k] != m[k]) = true := by simp [he]
          have hf' := hide hf
          clear he hf
          go_wp2_with fail
          go_quiet (fail)
          go_wp2
          go_ret
          exact ⟨by rw [hf'.out]; rfl, (by repeat' (first | exact Below.refl _ _ | (with_reducible assumption) | apply Below.drew | apply below_drewN | apply Below.alloc | apply Below.setCell)
                                           all_goals (first | omega | (simp; omega) | (simp; done)))⟩
      · have ht : decide (l = m) = true := by
          simp only [decide_eq_true_eq]
          exact eq_of_take hlen'.out fun j a b => HA.out j a b (by omega)
        have ht' := hide ht
        clear ht
        go_wp2
        go_ret
        exact ⟨by rw [ht'.out]; rfl, hbel⟩
  · have hb : ((l.length : Int) == (m.length : Int)) = false := by simp; omega
    have hn : ((l.length : Int) != (m.length : Int)) = true := by simp; omega
    go_enter Try.func14, Try.ntmps14
    go_wp2
    go_ret
    exact ⟨by rw [decide_eq_false (fun h => hlen (by rw [h]))]; rfl, Below.refl _ _⟩
theorem sameInts_to (l m : List Int) (r : Bool) (v u : Value) (w : World) (hl : RD w eInt v l) (hm : RD w eInt u m) (h : decide (l = m) = r) :
    Calls Try.prog 14 #[v, u] w (Ret (.bool r) w) := by
  subst h
  exact sameInts_any l m v u w hl hm
set_option maxHeartbeats 400000 in
theorem eqInts_any (l m : List Int) (v u : Value) (w : World) (hl : RD w eInt v l) (hm : RD w eInt u m) :
    Calls Try.prog 19 #[v, u] w (Ret (.bool (decide (l = m))) w) := by
  obtain ⟨A, c, rfl, hc, hc'⟩ := hl.shape
  obtain ⟨A2, c2, rfl, hc2, hc2'⟩ := hm.shape
  have HL := hide hl
  have HM := hide hm
  clear hl hm
  by_cases hlen : l.length = m.length
  · have hb : ((l.length : Int) == (m.length : Int)) = true := by simp; omega
    have hn : ((l.length : Int) != (m.length : Int)) = false := by simp; omega
    have hlen' := hide hlen
    have g1 : l.length ≤ m.length := by omega
    have g2 : m.length ≤ l.length := by omega
    clear hlen
    go_enter Try.func19, Try.ntmps19
    go_wp2
    go_loopw [13] (SRel l m w) (fun i wr => l.length - (intOf i).toNat)
    case atStart => exact ⟨0, by omega, rfl, fun _ _ _ h => by omega, Below.refl _ _⟩
    case round =>
      obtain ⟨k, hk, rfl, hall, hbel⟩ := hrel
      have HA := hide hall
      clear hall
      by_cases hlt : k < l.length
      · obtain ⟨b, o, rfl, hb, c0⟩ := (HL.out.below hbel).int hlt
        obtain ⟨b2, o2, rfl, hb2, d0⟩ := (HM.out.below hbel).int (k := k) (by omega)
        have hlt2 : k < m.length := by omega
        by_cases he : l[k] = m[k]
        · have e1 : (l[k] != m[k]) = false := by simp [he]
          have he' := hide he
          clear he
          go_wp2_with fail
          go_quiet (fail)
          go_wp2
          go_roundw
          case rel => exact SRel.on hlt hlt2 HA.out he'.out (by repeat' (first | exact Below.refl _ _ | (with_reducible assumption) | apply Below.drew | apply below_drewN | apply Below.alloc | apply Below.setCell)
                                                                all_goals (first | omega | (simp; omega) | (simp; done)))
          case measure => simp [intOf]; omega
        · have hf : decide (l = m) = false := by
            simp only [decide_eq_false_iff_not]
            rintro rfl
            exact he rfl
          have e1 : (l[k] != m[k]) = true := by simp [he]
          have hf' := hide hf
          clear he hf
          go_wp2_with fail
          go_quiet (fail)
          go_wp2
          go_ret
          exact ⟨by rw [hf'.out]; rfl, (by repeat' (first | exact Below.refl _ _ | (with_reducible assumption) | apply Below.drew | apply below_drewN | apply Below.alloc | apply Below.setCell)
                                           all_goals (first | omega | (simp; omega) | (simp; done)))⟩
      · have ht : decide (l = m) = true := by
          simp only [decide_eq_true_eq]
          exact eq_of_take hlen'.out fun j a b => HA.out j a b (by omega)
        have ht' := hide ht
        clear ht
        go_wp2
        go_ret
        exact ⟨by rw [ht'.out]; rfl, hbel⟩
  · have hb : ((l.length : Int) == (m.length : Int)) = false := by simp; omega
    have hn : ((l.length : Int) != (m.length : Int)) = true := by simp; omega
    go_enter Try.func19, Try.ntmps19
    go_wp2
    go_ret
    exact ⟨by rw [decide_eq_false (fun h => hlen (by rw [h]))]; rfl, Below.refl _ _⟩
theorem eqInts_to (l m : List Int) (r : Bool) (v u : Value) (w : World) (hl : RD w eInt v l) (hm : RD w eInt u m) (h : decide (l = m) = r) :
    Calls Try.prog 19 #[v, u] w (Ret (.bool r) w) := by
  subst h
  exact eqInts_any l m v u w hl hm
end Go.Proofs.Ytmhabjjabdambaa
namespace Go.Proofs.Ytmhabjjabdambaa
open Go.ChangeShapes Go.WideShapes Go.ChangeAt Go.RowKit
set_option linter.unusedVariables false
set_option linter.unusedSimpArgs false

theorem plainLives_run : runOf [(1, 7, 1), (1, 3, 2), (4, 3, 0), (3, 7, 0)] = ([(3, 2)], [⟨0, 0, 0, false⟩, ⟨0, 0, 0, false⟩, ⟨0, 7, 1, true⟩, ⟨0, 0, 1, true⟩], 0) := by decide +kernel
end Go.Proofs.Ytmhabjjabdambaa
namespace Go.Proofs.Ytmhabjjabdambaa
open Go.ChangeShapes Go.WideShapes Go.ChangeAt Go.RowKit
set_option linter.unusedVariables false
set_option linter.unusedSimpArgs false

def getL (l : List IP) (key : Int) : An := if hasKey l key then ⟨0, 0, gv l (below l key), true⟩ else ⟨0, 0, 0, false⟩
def cutL (l : List IP) (key : Int) : List IP × An := if hasKey l key then (l.take (below l key) ++ l.drop (below l key + 1), ⟨0, 0, gv l (below l key), true⟩) else (l, ⟨0, 0, 0, false⟩)
def nextL (l : List IP) (key : Int) : An := toldL l (if hasKey l key then (below l key : Int) + 1 else below l key)
section
variable {l : List IP} (key val : Int)
theorem doA_bad (kind : Int) (h : mapRight l ≠ 0) : doA l kind key val = ([], ⟨mapRight l, 0, 0, false⟩) := by rw [doA, if_neg h]
theorem doA_arg (kind : Int) (h : mapRight l = 0) (h5 : kind ≤ 5) (hk : ¬ (0 ≤ key ∧ key ≤ 1000000)) : doA l kind key val = (l, ⟨1, 0, 0, false⟩) := by rw [doA, if_pos h, doL, if_pos (.inr ⟨h5, hk⟩)]
theorem doA_put (h : mapRight l = 0) (hk : 0 ≤ key ∧ key ≤ 1000000) : doA l 1 key val = putL l key val := by rw [doA, if_pos h, doL, if_neg (by omega)]; rfl
theorem doA_get (h : mapRight l = 0) (hk : 0 ≤ key ∧ key ≤ 1000000) : doA l 2 key val = (l, getL l key) := by rw [doA, if_pos h, doL, if_neg (by omega)]; rfl
theorem doA_cut (h : mapRight l = 0) (hk : 0 ≤ key ∧ key ≤ 1000000) : doA l 3 key val = cutL l key := by rw [doA, if_pos h, doL, if_neg (by omega)]; rfl
theorem doA_next (h : mapRight l = 0) (hk : 0 ≤ key ∧ key ≤ 1000000) : doA l 4 key val = (l, nextL l key) := by rw [doA, if_pos h, doL, if_neg (by omega)]; rfl
theorem doA_prev (h : mapRight l = 0) (hk : 0 ≤ key ∧ key ≤ 1000000) : doA l 5 key val = (l, toldL l ((below l key : Int) - 1)) := by rw [doA, if_pos h, doL, if_neg (by omega)]; rfl
theorem doA_count (h : mapRight l = 0) : doA l 6 key val = (l, ⟨0, 0, below l key, true⟩) := by rw [doA, if_pos h, doL, if_neg (by omega)]; rfl
theorem doA_nth (h : mapRight l = 0) : doA l 7 key val = (l, toldL l key) := by rw [doA, if_pos h, doL, if_neg (by omega)]; rfl
end
theorem rise_of {l : List IP} (h : mapRight l = 0) : Rise l := fun i j hi hj hij => mapRight_rise l h i j hi hj hij
theorem below_at {l : List IP} (h : Rise l) (k : Nat) (hk : k < l.length) : below l l[k].1 = k := by
  have h1 := below_cut l h l[k].1
  rcases Nat.lt_trichotomy (below l l[k].1) k with h2 | h2 | h2
  · have h3 := h1 (below l l[k].1) (by omega)
    have := h (below l l[k].1) k (by omega) hk h2
    omega
  · exact h2
  · have := (h1 k hk).1 h2; omega
theorem below_mono {l : List IP} {a b : Int} (h : a ≤ b) : below l a ≤ below l b := by
  unfold below
  induction l with
  | nil => simp
  | cons p t ih =>
    simp only [List.filter_cons]
    by_cases h1 : p.1 < a
    · rw [if_pos (by simpa using h1), if_pos (by simp; omega)]; simpa using ih
    · rw [if_neg (by simpa using h1)]
      split
      · simp; omega
      · exact ih
theorem do_to (l : List IP) (kind key val : Int) (R : List IP × An) (hR : doA l kind key val = R) (v : Value) (w : World) (hr : RD w ePair v l) :
    Calls Try.prog 29 #[v, .agg #[.int .i64 kind, .int .i64 key, .int .i64 val]] w (DoPost R w) := by
  subst hR
  exact do_any l kind key val v w hr
end Go.Proofs.Ytmhabjjabdambaa
namespace Go.Proofs.Ytmhabjjabdambaa
open Go.ChangeShapes Go.WideShapes Go.ChangeAt Go.RowKit
set_option linter.unusedVariables false
set_option linter.unusedSimpArgs false

theorem mapRight_iff (l : List IP) : mapRight l = 0 ↔ l.length ≤ 200 ∧ Rise l ∧ ∀ x ∈ l, 0 ≤ x.1 ∧ x.1 ≤ 1000000 := by
  constructor
  · intro h
    exact ⟨mapRight_len l h, rise_of h, fun x hx => mapRight_in l h x hx⟩
  · rintro ⟨h1, h2, h3⟩
    rw [mapRight, if_neg (by omega)]
    have : ∀ (l : List IP) (last : Int), Rise l → (∀ x ∈ l, last < x.1 ∧ x.1 ≤ 1000000) → mrFrom last l = 0 := by
      intro l
      induction l with
      | nil => intro _ _ _; rfl
      | cons p t ih =>
        intro last hr hb
        have hp := hb p (by simp)
        rw [mrFrom, if_pos ((btw_iff _ _ _).2 ⟨by omega, hp.2⟩)]
        refine ih p.1 hr.tail fun x hx => ⟨?_, (hb x (by simp [hx])).2⟩
        obtain ⟨j, hj, rfl⟩ := List.getElem_of_mem hx
        exact hr 0 (j + 1) (by simp) (by simpa using hj) (by omega)
    exact this l (-1) h2 fun x hx => ⟨by have := (h3 x hx).1; omega, (h3 x hx).2⟩

/-- All of T ahead of the key, all of D behind it. -/
structure TD (T D : List IP) (key : Int) : Prop where
  lt : ∀ x ∈ T, x.1 < key
  gt : ∀ x ∈ D, key < x.1
section
variable {T D M : List IP} {key : Int}
theorem TD.below (h : TD T D key) (hM : ∀ x ∈ M, x.1 = key) : below (T ++ M ++ D) key = T.length := by
  have h1 : T.filter (fun p => decide (p.1 < key)) = T := List.filter_eq_self.2 fun x hx => by simpa using h.lt x hx
  have h2 : M.filter (fun p => decide (p.1 < key)) = [] := List.filter_eq_nil_iff.2 fun x hx => by have := hM x hx; simp; omega
  have h3 : D.filter (fun p => decide (p.1 < key)) = [] := List.filter_eq_nil_iff.2 fun x hx => by have := h.gt x hx; simp; omega
  simp [Go.Proofs.Ytmhabjjabdambaa.below, List.filter_append, h1, h2, h3]
theorem TD.has (h : TD T D key) (hM : ∀ x ∈ M, x.1 = key) : hasKey (T ++ M ++ D) key = !M.isEmpty := by
  have h1 : T.any (fun p => p.1 == key) = false := by
    rw [List.any_eq_false]; intro x hx; have := h.lt x hx; simp; omega
  have h3 : D.any (fun p => p.1 == key) = false := by
    rw [List.any_eq_false]; intro x hx; have := h.gt x hx; simp; omega
  have h2 : M.any (fun p => p.1 == key) = !M.isEmpty := by
    cases M with
    | nil => rfl
    | cons a t => simp [hM a (by simp)]
  simp [hasKey, List.any_append, h1, h2, h3]
theorem gv_mid (T D : List IP) (p : IP) : gv (T ++ [p] ++ D) T.length = p.2 := by simp [gv, List.getD_eq_getElem?_getD]
theorem TD.one (key v : Int) : ∀ x ∈ [((key, v) : IP)], x.1 = key := fun x hx => by simp at hx; rw [hx]
theorem TD.no (key : Int) : ∀ x ∈ ([] : List IP), x.1 = key := fun x hx => by simp at hx
theorem TD.get_one (h : TD T D key) (v : Int) : getL (T ++ [(key, v)] ++ D) key = ⟨0, 0, v, true⟩ := by
  rw [getL, h.has (TD.one key v), h.below (TD.one key v), gv_mid]; rfl
theorem TD.get_no (h : TD T D key) : getL (T ++ D) key = ⟨0, 0, 0, false⟩ := by
  have := h.has (M := []) (TD.no key)
  rw [List.append_nil] at this
  rw [getL, this]; rfl
theorem TD.put_one (h : TD T D key) (v u : Int) : putL (T ++ [(key, v)] ++ D) key u = (T ++ [(key, u)] ++ D, ⟨0, 0, 0, true⟩) := by
  rw [putL, h.has (TD.one key v), h.below (TD.one key v), if_pos (show (!([((key, v) : IP)].isEmpty)) = true from rfl)]
  congr 1
  rw [List.append_assoc, List.set_append_right _ _ (Nat.le_refl _), Nat.sub_self]; simp
theorem TD.put_no (h : TD T D key) (u : Int) : putL (T ++ D) key u = if (T ++ D).length = 200 then (T ++ D, ⟨2, 0, 0, false⟩) else (T ++ [(key, u)] ++ D, ⟨0, 0, 0, false⟩) := by
  have h1 := h.has (M := []) (TD.no key)
  have h2 := h.below (M := []) (TD.no key)
  rw [List.append_nil] at h1 h2
  rw [putL, h1, h2]
  simp
theorem TD.cut_one (h : TD T D key) (v : Int) : cutL (T ++ [(key, v)] ++ D) key = (T ++ D, ⟨0, 0, v, true⟩) := by
  rw [cutL, h.has (TD.one key v), h.below (TD.one key v), gv_mid]
  simp
theorem TD.cut_no (h : TD T D key) : cutL (T ++ D) key = (T ++ D, ⟨0, 0, 0, false⟩) := by
  have := h.has (M := []) (TD.no key)
  rw [List.append_nil] at this
  rw [cutL, this]; rfl
end
theorem getL_find (l : List IP) (h : Rise l) (o : Int) : getL l o = match l.find? (fun p => p.1 == o) with | some p => ⟨0, 0, p.2, true⟩ | none => ⟨0, 0, 0, false⟩ := by
  cases hk : hasKey l o with
  | true =>
    obtain ⟨hb, he⟩ := (hasKey_iff l h o).1 hk
    have hf : l.find? (fun p => p.1 == o) = some l[below l o] := by
      rw [List.find?_eq_some_iff_getElem]
      refine ⟨by simp [he], below l o, hb, rfl, fun j hj => ?_⟩
      have := (below_cut l h o j (by omega)).1 hj
      simp; omega
    rw [hf, getL, hk, if_pos rfl, gv_eq l _ hb]
  | false =>
    have hf : l.find? (fun p => p.1 == o) = none := by
      rw [List.find?_eq_none]
      intro x hx
      have : ¬ hasKey l o = true := by simp [hk]
      simp only [hasKey, List.any_eq_true, not_exists, not_and] at this
      exact this x hx
    rw [hf, getL, hk]; rfl
/-- Of another key the middle says nothing. -/
theorem get_other (T D M M' : List IP) (key o : Int) (h1 : Rise (T ++ M ++ D)) (h2 : Rise (T ++ M' ++ D)) (hM : ∀ x ∈ M, x.1 = key) (hM' : ∀ x ∈ M', x.1 = key) (ho : o ≠ key) : getL (T ++ M ++ D) o = getL (T ++ M' ++ D) o := by
  rw [getL_find _ h1, getL_find _ h2]
  have e : ∀ N : List IP, (∀ x ∈ N, x.1 = key) → N.find? (fun p => p.1 == o) = none := fun N hN => by
    rw [List.find?_eq_none]; intro x hx; have := hN x hx; simp; omega
  simp only [List.find?_append, e M hM, e M' hM', Option.or_none]
theorem rise_iff (l : List IP) : Rise l ↔ l.Pairwise (fun a b => a.1 < b.1) := by
  rw [List.pairwise_iff_getElem]
  exact ⟨fun h i j hi hj hij => h i j hi hj hij, fun h i j hi hj hij => h i j hi hj hij⟩
theorem rise_mid {T D M : List IP} {key : Int} (h : TD T D key) (hT : Rise T) (hD : Rise D) (v : Int) : Rise (T ++ [(key, v)] ++ D) := by
  rw [rise_iff] at hT hD ⊢
  rw [List.pairwise_append, List.pairwise_append]
  refine ⟨⟨hT, by simp, fun a ha b hb => ?_⟩, hD, fun a ha b hb => ?_⟩
  · simp at hb; subst hb; exact h.lt a ha
  · have := h.gt b hb
    rcases List.mem_append.1 ha with ha | ha
    · have := h.lt a ha; omega
    · simp at ha; subst ha; exact this
theorem rise_no {T D : List IP} {key : Int} (h : TD T D key) (hT : Rise T) (hD : Rise D) : Rise (T ++ D) := by
  rw [rise_iff] at hT hD ⊢
  rw [List.pairwise_append]
  exact ⟨hT, hD, fun a ha b hb => by have := h.lt a ha; have := h.gt b hb; omega⟩
theorem rise_parts {T D : List IP} (h : Rise (T ++ D)) : Rise T ∧ Rise D := by
  rw [rise_iff, List.pairwise_append] at h
  exact ⟨(rise_iff _).2 h.1, (rise_iff _).2 h.2.1⟩
/-- Each list that rises is parted so. -/
theorem td_of (l : List IP) (h : Rise l) (key : Int) : ∃ T M D, l = T ++ M ++ D ∧ TD T D key ∧ Rise T ∧ Rise D ∧ (M = [] ∨ ∃ v, M = [(key, v)]) := by
  have hcut := below_cut l h key
  have hbl := below_le l key
  have hT : ∀ x ∈ l.take (below l key), x.1 < key := fun x hx => by
    obtain ⟨j, hj, rfl⟩ := List.getElem_of_mem hx
    simp at hj
    rw [List.getElem_take]
    exact (hcut j (by omega)).1 (by omega)
  have hRT : Rise (l.take (below l key)) := (rise_parts (D := l.drop (below l key)) (by rw [List.take_append_drop]; exact h)).1
  have hge : ∀ j (hj : j < l.length), below l key ≤ j → key ≤ l[j].1 := fun j hj hb => by
    have := hcut j hj; omega
  by_cases hh : ∃ hb : below l key < l.length, l[below l key].1 = key
  · obtain ⟨hb, he⟩ := hh
    refine ⟨l.take (below l key), [(key, l[below l key].2)], l.drop (below l key + 1), ?_, ⟨hT, fun x hx => ?_⟩, hRT, ?_, .inr ⟨_, rfl⟩⟩
    · have : ((key, l[below l key].2) : IP) = l[below l key] := Prod.ext he.symm rfl
      rw [this]; simp
    · obtain ⟨j, hj, rfl⟩ := List.getElem_of_mem hx
      simp at hj
      rw [List.getElem_drop]
      have := h (below l key) (below l key + 1 + j) hb (by omega) (by omega)
      omega
    · exact (rise_parts (T := l.take (below l key + 1)) (by rw [List.take_append_drop]; exact h)).2
  · refine ⟨l.take (below l key), [], l.drop (below l key), by simp, ⟨hT, fun x hx => ?_⟩, hRT, ?_, .inl rfl⟩
    · obtain ⟨j, hj, rfl⟩ := List.getElem_of_mem hx
      simp at hj
      rw [List.getElem_drop]
      have h1 := hge (below l key + j) (by omega) (by omega)
      rcases Nat.eq_zero_or_pos j with rfl | hj0
      · have : (l[below l key + 0]).1 ≠ key := fun e => hh ⟨by omega, by simpa using e⟩
        omega
      · have := h (below l key) (below l key + j) (by omega) (by omega) (by omega)
        have := hge (below l key) (by omega) (Nat.le_refl _)
        omega
    · exact (rise_parts (T := l.take (below l key)) (by rw [List.take_append_drop]; exact h)).2

end Go.Proofs.Ytmhabjjabdambaa
namespace Go.Proofs.Ytmhabjjabdambaa
open Go.ChangeShapes Go.WideShapes Go.ChangeAt Go.RowKit
set_option linter.unusedVariables false
set_option linter.unusedSimpArgs false

theorem doA_right (l : List IP) (kind key val : Int) (h : mapRight l = 0) : mapRight (doA l kind key val).1 = 0 := by
  have hr := rise_of h
  rw [doA, if_pos h, doL]
  by_cases hb : ¬ (1 ≤ kind ∧ kind ≤ 7) ∨ (kind ≤ 5 ∧ ¬ (0 ≤ key ∧ key ≤ 1000000))
  · rw [if_pos hb]; exact h
  · rw [if_neg hb]
    obtain ⟨T, M, D, hl, htd, hT, hD, hM⟩ := td_of l hr key
    obtain ⟨hlen, _, hin⟩ := (mapRight_iff l).1 h
    have hin2 : ∀ x, x ∈ T ∨ x ∈ D → 0 ≤ x.1 ∧ x.1 ≤ 1000000 := fun x hx => hin x (by rw [hl]; simp; rcases hx with h | h <;> simp [h])
    have hlen2 : (T ++ D).length ≤ 200 := by rw [hl] at hlen; simp at hlen ⊢; omega
    by_cases k1 : kind = 1
    · rw [if_pos k1]
      have hmid : ∀ u, (T ++ [(key, u)] ++ D).length ≤ 200 → mapRight (T ++ [(key, u)] ++ D) = 0 := fun u hu => (mapRight_iff _).2 ⟨hu, rise_mid (M := []) htd hT hD u, fun x hx => by
        simp only [List.mem_append, List.mem_singleton] at hx
        rcases hx with (hx | rfl) | hx
        · exact hin2 x (.inl hx)
        · subst k1; simp only; omega
        · exact hin2 x (.inr hx)⟩
      rcases hM with rfl | ⟨u, rfl⟩
      · rw [List.append_nil] at hl
        rw [hl, htd.put_no]
        by_cases h2 : (T ++ D).length = 200
        · rw [if_pos h2, ← hl]; exact h
        · rw [if_neg h2]
          exact hmid val (by simp at hlen2 h2 ⊢; omega)
      · rw [hl, htd.put_one]
        exact hmid val (by rw [hl] at hlen; simp at hlen ⊢; omega)
    · rw [if_neg k1]
      by_cases k2 : kind = 2
      · rw [if_pos k2]; exact h
      · rw [if_neg k2]
        by_cases k3 : kind = 3
        · rw [if_pos k3]
          have : mapRight (cutL l key).1 = 0 := by
            rcases hM with rfl | ⟨u, rfl⟩
            · rw [List.append_nil] at hl
              rw [hl, htd.cut_no, ← hl]; exact h
            · rw [hl, htd.cut_one]
              exact (mapRight_iff _).2 ⟨hlen2, rise_no htd hT hD, fun x hx => hin2 x (List.mem_append.1 hx)⟩
          exact this
        · rw [if_neg k3]
          by_cases k4 : kind = 4
          · rw [if_pos k4]; exact h
          · rw [if_neg k4]
            by_cases k5 : kind = 5
            · rw [if_pos k5]; exact h
            · rw [if_neg k5]
              by_cases k6 : kind = 6
              · rw [if_pos k6]; exact h
              · rw [if_neg k6]; exact h
theorem runL_right (ops : List O3) (k : Nat) (hk : k ≤ ops.length) : mapRight (runL (ops.take k)).1 = 0 := by
  induction k with
  | zero => rfl
  | succ k ih =>
    rw [runL_take ops k (by omega), runS]
    exact doA_right _ _ _ _ (ih (by omega))
end Go.Proofs.Ytmhabjjabdambaa
namespace Go.Proofs.Ytmhabjjabdambaa
open Go.ChangeShapes Go.WideShapes Go.ChangeAt Go.RowKit
set_option linter.unusedVariables false
set_option linter.unusedSimpArgs false

section
variable {T D M : List IP} {key : Int}
theorem TD.ltS (h : TD T D key) : (T.map Prod.fst).filter (fun y => decide (y < key)) = T.map Prod.fst := List.filter_eq_self.2 fun x hx => by
  obtain ⟨p, hp, rfl⟩ := List.mem_map.1 hx
  simpa using h.lt p hp
theorem TD.ltD (h : TD T D key) : (D.map Prod.fst).filter (fun y => decide (y < key)) = [] := List.filter_eq_nil_iff.2 fun x hx => by
  obtain ⟨p, hp, rfl⟩ := List.mem_map.1 hx
  have := h.gt p hp
  simp; omega
theorem TD.gtS (h : TD T D key) : (T.map Prod.fst).filter (fun y => decide (key < y)) = [] := List.filter_eq_nil_iff.2 fun x hx => by
  obtain ⟨p, hp, rfl⟩ := List.mem_map.1 hx
  have := h.lt p hp
  simp; omega
theorem TD.gtD (h : TD T D key) : (D.map Prod.fst).filter (fun y => decide (key < y)) = D.map Prod.fst := List.filter_eq_self.2 fun x hx => by
  obtain ⟨p, hp, rfl⟩ := List.mem_map.1 hx
  simpa using h.gt p hp
theorem midLt (hM : ∀ x ∈ M, x.1 = key) : (M.map Prod.fst).filter (fun y => decide (y < key)) = [] := List.filter_eq_nil_iff.2 fun x hx => by
  obtain ⟨p, hp, rfl⟩ := List.mem_map.1 hx
  have := hM p hp
  simp; omega
theorem midGt (hM : ∀ x ∈ M, x.1 = key) : (M.map Prod.fst).filter (fun y => decide (key < y)) = [] := List.filter_eq_nil_iff.2 fun x hx => by
  obtain ⟨p, hp, rfl⟩ := List.mem_map.1 hx
  have := hM p hp
  simp; omega
theorem TD.insS (h : TD T D key) (hM : ∀ x ∈ M, x.1 = key) (v : Int) : insU ((T ++ M ++ D).map Prod.fst) key = (T ++ [(key, v)] ++ D).map Prod.fst := by
  simp only [insU, List.map_append, List.filter_append, h.ltS, h.ltD, h.gtS, h.gtD, midLt hM, midGt hM]
  simp
theorem TD.nxS (h : TD T D key) (hM : ∀ x ∈ M, x.1 = key) : nxU ((T ++ M ++ D).map Prod.fst) key = (D.map Prod.fst).head? := by
  simp only [nxU, List.map_append, List.filter_append, h.gtS, h.gtD, midGt hM]
  simp
theorem TD.pvS (h : TD T D key) (hM : ∀ x ∈ M, x.1 = key) : pvU ((T ++ M ++ D).map Prod.fst) key = (T.map Prod.fst).getLast? := by
  simp only [pvU, List.map_append, List.filter_append, h.ltS, h.ltD, midLt hM]
  simp
theorem TD.noS (h : TD T D key) : key ∉ (T ++ D).map Prod.fst := by
  rw [List.mem_map]
  rintro ⟨p, hp, e⟩
  rcases List.mem_append.1 hp with hp | hp
  · have := h.lt p hp; omega
  · have := h.gt p hp; omega
theorem TD.delS (h : TD T D key) (hM : ∀ x ∈ M, x.1 = key) : delU ((T ++ M ++ D).map Prod.fst) key = (T ++ D).map Prod.fst := by
  have h1 : delU ((T ++ D).map Prod.fst) key = (T ++ D).map Prod.fst := delU_out h.noS
  have h2 : (M.map Prod.fst).filter (fun y => !(y == key)) = [] := List.filter_eq_nil_iff.2 fun x hx => by
    obtain ⟨p, hp, rfl⟩ := List.mem_map.1 hx
    simp [hM p hp]
  rw [← h1]
  simp only [delU, List.map_append, List.filter_append, h2, List.append_nil]
end
/-- An op that may be, without a value. -/
def MayO (o : O3) : Prop := 1 ≤ o.1 ∧ o.1 ≤ 5 ∧ 0 ≤ o.2.1 ∧ o.2.1 ≤ 65535 ∧ o.2.2 = 0
def NoVal (l : List IP) : Prop := ∀ p ∈ l, p.2 = 0
theorem half_step (l : List IP) (o : O3) (h : mapRight l = 0) (hz : NoVal l) (hn : l.length < 200) (ho : MayO o) :
    hDo (l.map Prod.fst) o = ((doA l o.1 o.2.1 o.2.2).1.map Prod.fst, (doA l o.1 o.2.1 o.2.2).2) ∧ NoVal (doA l o.1 o.2.1 o.2.2).1 ∧ (doA l o.1 o.2.1 o.2.2).1.length ≤ l.length + 1 := by
  obtain ⟨kind, key, val⟩ := o
  obtain ⟨h1, h2, h3, h4, h5⟩ := ho
  simp only at h1 h2 h3 h4 h5 ⊢
  subst h5
  have hk : 0 ≤ key ∧ key ≤ 1000000 := by omega
  obtain ⟨T, M, D, hl, htd, hT, hD, hM⟩ := td_of l (rise_of h) key
  have hM1 : ∀ x ∈ M, x.1 = key := by
    rcases hM with rfl | ⟨v, rfl⟩
    · exact TD.no key
    · exact TD.one key v
  have hMv : M = [] ∨ M = [(key, 0)] := by
    rcases hM with rfl | ⟨v, rfl⟩
    · exact .inl rfl
    · have := hz (key, v) (by rw [hl]; simp)
      simp only at this
      subst this; exact .inr rfl
  have hzT : NoVal T := fun p hp => hz p (by rw [hl]; simp [hp])
  have hzD : NoVal D := fun p hp => hz p (by rw [hl]; simp [hp])
  have hzTD : NoVal (T ++ D) := fun p hp => (List.mem_append.1 hp).elim (hzT p) (hzD p)
  have hzTMD : NoVal (T ++ [(key, 0)] ++ D) := fun p hp => by
    simp only [List.mem_append, List.mem_singleton] at hp
    rcases hp with (hp | rfl) | hp
    · exact hzT p hp
    · rfl
    · exact hzD p hp
  have hin : decide (key ∈ l.map Prod.fst) = !M.isEmpty := by
    rcases hMv with rfl | rfl
    · rw [hl, List.append_nil]; simpa using htd.noS
    · rw [hl]; simp
  rcases (show kind = 1 ∨ kind = 2 ∨ kind = 3 ∨ kind = 4 ∨ kind = 5 by omega) with rfl | rfl | rfl | rfl | rfl
  · have e : hDo (l.map Prod.fst) (1, key, 0) = (insU (l.map Prod.fst) key, ⟨0, 0, 0, decide (key ∈ l.map Prod.fst)⟩) := by
      unfold hDo; simp only; rw [if_neg (by omega), if_neg (by omega)]; rfl
    rw [e, hin, doA_put key 0 h hk, hl, htd.insS hM1 0]
    rcases hMv with rfl | rfl
    · rw [List.append_nil] at hl ⊢
      rw [htd.put_no, if_neg (by rw [← hl]; omega)]
      exact ⟨rfl, hzTMD, by simp <;> omega⟩
    · rw [htd.put_one]
      exact ⟨rfl, hzTMD, by simp <;> omega⟩
  · have e : hDo (l.map Prod.fst) (2, key, 0) = (l.map Prod.fst, ⟨0, 0, 0, decide (key ∈ l.map Prod.fst)⟩) := by
      unfold hDo; simp only; rw [if_neg (by omega), if_neg (by omega)]; rfl
    rw [e, hin, doA_get key 0 h hk]
    refine ⟨?_, hz, by simp⟩
    rcases hMv with rfl | rfl
    · rw [List.append_nil] at hl
      rw [hl, htd.get_no]; rfl
    · rw [hl, htd.get_one]; rfl
  · have e : hDo (l.map Prod.fst) (3, key, 0) = (delU (l.map Prod.fst) key, ⟨0, 0, 0, decide (key ∈ l.map Prod.fst)⟩) := by
      unfold hDo; simp only; rw [if_neg (by omega), if_neg (by omega)]; rfl
    rw [e, hin, doA_cut key 0 h hk, hl, htd.delS hM1]
    rcases hMv with rfl | rfl
    · rw [List.append_nil]
      rw [htd.cut_no]
      exact ⟨rfl, hzTD, Nat.le_succ _⟩
    · rw [htd.cut_one]
      exact ⟨rfl, hzTD, by simp <;> omega⟩
  · have e : hDo (l.map Prod.fst) (4, key, 0) = (l.map Prod.fst, ansN (nxU (l.map Prod.fst) key)) := by
      unfold hDo; simp only; rw [if_neg (by omega), if_neg (by omega)]; rfl
    rw [e, doA_next key 0 h hk]
    refine ⟨?_, hz, by simp⟩
    congr 1
    rw [hl, htd.nxS hM1, nextL, htd.has hM1, htd.below hM1]
    have hidx : (if (!M.isEmpty) = true then (T.length : Int) + 1 else T.length) = ((T.length + M.length : Nat) : Int) := by
      rcases hMv with rfl | rfl <;> simp
    rw [hidx]
    cases D with
    | nil => rw [toldL_no _ _ (by simp)]; rfl
    | cons p D =>
      rw [toldL_at _ _ (by simp)]
      have hp : (T ++ M ++ p :: D)[T.length + M.length]'(by simp) = p := by
        rw [List.getElem_append_right (by simp)]; simp
      rw [hp, hzD p (by simp)]; rfl
  · have e : hDo (l.map Prod.fst) (5, key, 0) = (l.map Prod.fst, ansN (pvU (l.map Prod.fst) key)) := by
      unfold hDo; simp only; rw [if_neg (by omega), if_neg (by omega)]; rfl
    rw [e, doA_prev key 0 h hk]
    refine ⟨?_, hz, by simp⟩
    congr 1
    rw [hl, htd.pvS hM1, htd.below hM1]
    rcases List.eq_nil_or_concat T with rfl | ⟨T', p, rfl⟩
    · rw [toldL_no _ _ (by simp)]; rfl
    · rw [List.concat_eq_append] at *
      rw [show (((T' ++ [p]).length : Nat) : Int) - 1 = ((T'.length : Nat) : Int) by simp <;> omega, toldL_at _ _ (by simp <;> omega)]
      have hp : (T' ++ [p] ++ M ++ D)[T'.length]'(by simp <;> omega) = p := by simp
      rw [hp, hzT p (by simp), List.map_append]
      simp [ansN]
theorem half_plain (ops : List O3) (hn : ops.length ≤ 200) (ho : ∀ o ∈ ops, MayO o) : hRunL ops = ((runL ops).1.map Prod.fst, (runL ops).2) := by
  have key : ∀ k, k ≤ ops.length → hRunL (ops.take k) = ((runL (ops.take k)).1.map Prod.fst, (runL (ops.take k)).2) ∧ NoVal (runL (ops.take k)).1 ∧ (runL (ops.take k)).1.length ≤ k := by
    intro k
    induction k with
    | zero => exact fun _ => ⟨rfl, fun p hp => (by cases hp), Nat.le_refl _⟩
    | succ k ih =>
      intro hk
      obtain ⟨i1, i2, i3⟩ := ih (by omega)
      have hs := half_step (runL (ops.take k)).1 ops[k] (runL_right ops k (by omega)) i2 (by omega) (ho _ (List.getElem_mem _))
      rw [hRunL_take ops k (by omega), runL_take ops k (by omega), hStep, runS, i1]
      simp only
      rw [hs.1]
      exact ⟨rfl, hs.2.1, by omega⟩
  have := (key ops.length (Nat.le_refl _)).1
  rwa [List.take_length] at this
theorem runL_len200 (ops : List O3) : (runL ops).1.length ≤ 200 := by
  have := runL_right ops ops.length (Nat.le_refl _)
  rw [List.take_length] at this
  exact ((mapRight_iff _).1 this).1
end Go.Proofs.Ytmhabjjabdambaa
