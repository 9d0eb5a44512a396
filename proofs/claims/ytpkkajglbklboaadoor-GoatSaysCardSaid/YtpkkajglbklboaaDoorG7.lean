/-
  plain.Run: what it answers. Conditions: the list of ops reads as ops (RD).
  grow.told, grow.Of, grow.Run: what they answer. Conditions: the lists read as they are named (RD).
  Trees of places: plain words, no program. Conditions: none.
  shape.top, shape.parents, shape.read, shape.Parents: what they answer. Conditions: the list reads as l (RD).
  shape.walk: what it appends. Conditions: the list reads as l (RD), the variable holds a slice of the call's own (OB).
  shape.read, shape.Parents: what they answer. Conditions: the list reads as l (RD).
-/
import Derived.Test.YtpkkajglbklboaaDoorG6
import Derived.Test.YtpkkajglbklboaaDoorG3
import Derived.Test.YtpkkajglbklboaaDoorG1
import Derived.Test.YtpkkajglbklboaaDoorG2

namespace Go.Proofs.YtpkkajglbklboaaDoor
open Go.ChangeShapes Go.WideShapes Go.ChangeAt Go.RowKit
set_option linter.unusedVariables false
set_option linter.unusedSimpArgs false

def runS (s : List IP × List An) (o : O3) : List IP × List An := ((doA s.1 o.1 o.2.1 o.2.2).1, s.2 ++ [(doA s.1 o.1 o.2.1 o.2.2).2])
def runL (ops : List O3) : List IP × List An := ops.foldl runS ([], [])
def runOf (ops : List O3) : List IP × List An × Int := if ops.length > 300 then ([], [], 2) else ((runL ops).1, (runL ops).2, 0)
theorem runL_take (ops : List O3) (k : Nat) (h : k < ops.length) : runL (ops.take (k + 1)) = runS (runL (ops.take k)) ops[k] := by
  rw [List.take_succ_eq_append_getElem h, runL, List.foldl_append]; rfl
theorem runL_len (ops : List O3) (k : Nat) (h : k ≤ ops.length) : (runL (ops.take k)).2.length = k := by
  induction k with
  | zero => rfl
  | succ k ih =>
    rw [runL_take ops k (by omega), runS, List.length_append, ih (by omega)]; rfl
def RunPost (r : List IP × List An × Int) (w : World) (e : Ending) (w' : World) : Prop := ∃ v u, e = .returned (.tuple #[v, u, .int .i64 r.2.2]) ∧ RD w' ePair v r.1 ∧ RD w' eAns u r.2.1 ∧ Below w.heap.size w w'
def RnRel (ops : List O3) (w : World) (lv ov iv : Value) (wr : World) : Prop :=
  ∃ k : Nat, k ≤ ops.length ∧ iv = .int .i64 k ∧ OW wr w.heap.size 89 ePair lv (runL (ops.take k)).1 ∧ OW wr w.heap.size 32 eAns ov (runL (ops.take k)).2 ∧ Kp w wr
set_option maxRecDepth 100000 in
set_option maxHeartbeats 4000000 in
theorem run_any (ops : List O3) (v : Value) (w : World) (hr : RD w eOp v ops) : Calls Tryd.prog 27 #[v] w (RunPost (runOf ops) w) := by
  obtain ⟨A, c, rfl, hc, hm⟩ := hr.shape
  have HR := hide hr
  clear hr
  by_cases hlen : ops.length > 300
  · have H1 : Hid (runOf ops = ([], [], 2)) := hide (by rw [runOf, if_pos hlen])
    go_enter Tryd.func27, Tryd.ntmps27
    go_wp2
    go_ret3
    exact ⟨_, _, by rw [H1.out]; rfl, by rw [H1.out]; exact RD.nil, by rw [H1.out]; exact RD.nil, Below.refl _ _⟩
  · have H1 : Hid (runOf ops = ((runL ops).1, (runL ops).2, 0)) := hide (by rw [runOf, if_neg hlen])
    go_enter Tryd.func27, Tryd.ntmps27
    go_wp2
    go_loopw [5, 6, 16] (RnRel ops w) (fun _ _ i _ => ops.length - (intOf i).toNat)
    case atStart => exact ⟨0, by omega, rfl, OW.nil, OW.nil, Kp.refl _⟩
    case round =>
      obtain ⟨k, hk, rfl, hl, ho, hkp⟩ := hrel
      have hi := ho.hi
      have HLO := hide ho.lo
      have HL := hide hl
      have HO := hide ho
      have hol := runL_len ops k hk
      obtain ⟨A6, c6, hv6, hc6, hm6⟩ := ho.rd.shape
      rw [hol] at hv6 hc6
      subst hv6
      clear hl ho
      by_cases hlt : k < ops.length
      · obtain ⟨b, o, rfl, _, x0, x1, x2⟩ := (HR.out.kp hkp).op hlt
        have hst := runL_take ops k hlt
        obtain ⟨S, hS⟩ : ∃ S, S = runL (ops.take k) := ⟨_, rfl⟩
        rw [← hS] at HL HO hst hol
        obtain ⟨D, hD⟩ : ∃ D, D = doA S.1 ops[k].1 ops[k].2.1 ops[k].2.2 := ⟨_, rfl⟩
        have HST : Hid (runL (ops.take (k + 1)) = (D.1, S.2 ++ [D.2])) := hide (by rw [hst, runS, hD])
        have HD := hide (fun W v h => do_any S.1 ops[k].1 ops[k].2.1 ops[k].2.2 v W h)
        rw [← hD] at HD
        have HM1 : Hid ((S.2.length + [D.2].length) * 32 ≤ 140737488355328) := hide (by rw [hol]; simp; omega)
        have HM2 : Hid (S.2.length + [D.2].length ≤ maxLen) := hide (by rw [hol]; simp [maxLen]; omega)
        clear hst hD hS hol
        go_wp2_with fail
        refine (HD.out _ _ (HL.out.rd.alloc _)).mono ?_
        rintro e w2 ⟨v2, rfl, hr2, hb2⟩
        have hk2 : Kp wr w2 := (Kp.refl wr).alloc.trans hb2
        have HR2 := hide hr2
        have HO2 := hide (HO.out.kp hk2)
        obtain ⟨dl, da, db, dc, dd⟩ := D
        have hkw : Kp w w2 := hkp.trans hk2
        simp only [An.v]
        clear hr2 hb2
        go_wp2_with (at_builtin; (with_reducible refine list_app (B := w.heap.size) (l := S.2) (m := [(⟨da, db, dc, dd⟩ : An)]) row_ans (.slice A6 k c6) ?_ (.tmp 27) (.tmp 29) ?_ ?_ ?_ ?_ HM1.out HM2.out ?_ ?_); (with_reducible rfl); (with_reducible rfl); rfl; ((focus ((with_reducible apply OW.alloc); (with_reducible apply OW.alloc); exact HO2.out))); (show RD _ _ (.slice (some ⟨_, 0, none⟩) 1 1) _; (focus ((repeat (first | (with_reducible assumption) | exact RD.new1 _ rfl | (refine RD.new1e _ ?_ rfl; simp; done) | (with_reducible apply RD.alloc) | (with_reducible apply RD.drew) | (with_reducible apply RD.drewN) | ((with_reducible apply RD.belowR); (with_reducible assumption)))); done))); (exact Kp.size (w := w) (by (focus ((repeat (first | (with_reducible assumption) | (with_reducible exact Kp.refl _) | (with_reducible apply Kp.drew) | (with_reducible apply Kp.drewN) | ((with_reducible apply Kp.setR); (focus (first | (with_reducible assumption) | (simp; done) | (simp; omega)))) | (with_reducible apply Kp.alloc) | ((with_reducible apply Kp.call); (with_reducible assumption)) | ((with_reducible apply Kp.app); (with_reducible assumption)))); done)))); intro v3 w3 ho3 hg3 hat3)
        go_roundw
        case rel =>
          refine ⟨k + 1, by omega, by go_num, ?_, by rw [HST.out]; exact ho3, (by (focus ((repeat (first | (with_reducible assumption) | (with_reducible exact Kp.refl _) | (with_reducible apply Kp.drew) | (with_reducible apply Kp.drewN) | ((with_reducible apply Kp.setR); (focus (first | (with_reducible assumption) | (simp; done) | (simp; omega)))) | (with_reducible apply Kp.alloc) | ((with_reducible apply Kp.call); (with_reducible assumption)) | ((with_reducible apply Kp.app); (with_reducible assumption)))); done)))⟩
          rw [HST.out]
          have hap := Lo.apart HLO.out (Hi.mono HR2.out.hi (by simp))
          exact (OW.kept ((HR2.out.alloc _).alloc _) hg3 hap).more (by have := hkp.size; simp; omega)
        case measure => simp [intOf]; omega
      · have hkl : k = ops.length := by omega
        subst hkl
        have hS : Hid (ops.take ops.length = ops) := hide (by simp)
        clear hol
        go_wp2
        go_ret3
        exact ⟨_, _, by rw [H1.out]; rfl, by rw [H1.out, ← hS.out]; simpa using HL.out.rd, by rw [H1.out, ← hS.out]; simpa using HO.out.rd, hkp.bel⟩
end Go.Proofs.YtpkkajglbklboaaDoor
namespace Go.Proofs.YtpkkajglbklboaaDoor
open Go.ChangeShapes Go.WideShapes Go.ChangeAt Go.RowKit
set_option linter.unusedVariables false
set_option linter.unusedSimpArgs false

/-- A variable that holds a tree of the call's own. -/
def TB {α : Type} (w : World) (nt : TypeId) (E : Enc α) (r0 : Addr) (base : Nat) (T : MT α) : Prop := ∃ p F, w.cell? r0 = some (.pointer p) ∧ w.frozen? r0 = false ∧ MR w nt E T p F ∧ r0.block ∉ F ∧ ∀ x ∈ F, base ≤ x
theorem TB.kp {α : Type} {w w' : World} {nt : TypeId} {E : Enc α} {r0 : Addr} {base : Nat} {T : MT α} (h : TB w nt E r0 base T) (hk : Kp w w') : TB w' nt E r0 base T := by
  obtain ⟨p, F, h1, h2, h3, h4, h5⟩ := h
  exact ⟨p, F, hk.cell h1, (hk.frozen (World.block_lt_of_cell? _ _ h1)).trans h2, h3.kp hk, h4, h5⟩
theorem TPost.tb {α : Type} {nt : TypeId} {E : Enc α} {r0 : Addr} {T T' : MT α} {F : List Nat} {w w0 w' : World} {e : Ending} {p : Option Addr} (h : TPost nt E r0 T' F w e w') (hc : w.cell? r0 = some (.pointer p)) (hr : r0.block ∉ F) (hF : ∀ x ∈ F, w0.heap.size ≤ x) (hk : Kp w0 w) (hr0 : w0.heap.size ≤ r0.block) :
    e = .returned (.tuple #[]) ∧ TB w' nt E r0 w0.heap.size T' ∧ Kp w0 w' ∧ Kf (fun i => i = r0.block ∨ i ∈ F) w w' := by
  obtain ⟨p', F', rfl, h1, h2, h3, h4, h5⟩ := h
  have hrl := World.block_lt_of_cell? _ _ hc
  have hz := hk.size
  refine ⟨rfl, ⟨p', F', h1, h4, h2, fun hx => ?_, fun x hx => ?_⟩, h5.kp hk fun i hi => ?_, h5⟩
  · rcases h3 _ hx with h | h
    · exact hr h
    · omega
  · rcases h3 x hx with h | h
    · exact hF x h
    · omega
  · rcases hi with rfl | hi
    · exact hr0
    · exact hF i hi
theorem ins_size : ∀ (T : MT IP) (p : IP), (ins T p).size ≤ T.size + 1
  | .nil, _ => by simp [ins, MT.size]
  | .node a l r, p => by
    have h1 := ins_size l p
    have h2 := ins_size r p
    unfold ins
    split
    · simp only [MT.size]; omega
    · split
      · simp only [MT.size]; omega
      · omega
theorem delMin_size : ∀ (T : MT IP), (delMin T).size ≤ T.size
  | .nil => by simp [delMin]
  | .node _ .nil r => by simp only [delMin, MT.size]; omega
  | .node a (.node b x y) r => by
    have := delMin_size (.node b x y)
    simp only [delMin, MT.size] at this ⊢; omega
theorem delTop_size (l r : MT IP) : (delTop l r).size ≤ l.size + 1 + r.size := by
  cases l with
  | nil => simp only [delTop, MT.size]; omega
  | node a x y =>
    cases r with
    | nil => simp only [delTop, MT.size]; omega
    | node b u v =>
      have := delMin_size (.node b u v)
      simp only [delTop_nn, MT.size] at this ⊢; omega
theorem del_size : ∀ (T : MT IP) (k : Int), (del T k).size ≤ T.size
  | .nil, _ => by simp [del]
  | .node a l r, k => by
    have h1 := del_size l k
    have h2 := del_size r k
    have h3 := delTop_size l r
    unfold del
    split
    · simp only [MT.size]; omega
    · split
      · simp only [MT.size]; omega
      · simp only [MT.size]; omega

def insK (T : MT IP) (k : Int) : MT IP := ins T (k, 0)
def ofT (l : List Int) : MT IP := l.foldl insK .nil
theorem ofT_snoc (l : List Int) (k : Nat) (h : k < l.length) : ofT (l.take (k + 1)) = ins (ofT (l.take k)) (l[k], 0) := by
  rw [List.take_succ_eq_append_getElem h, ofT, List.foldl_append]; rfl
theorem ofT_size (l : List Int) (k : Nat) (h : k ≤ l.length) : (ofT (l.take k)).size ≤ k := by
  induction k with
  | zero => simp [ofT, MT.size]
  | succ k ih => rw [ofT_snoc l k (by omega)]; have := ins_size (ofT (l.take k)) (l[k], 0); have := ih (by omega); omega
def growOf (l : List Int) : List IP × Int := if rightG l ≠ 0 then ([], rightG l) else ((ofT l).spotsBy Prod.fst 0, 0)
theorem rightG_len (l : List Int) (h : rightG l = 0) : l.length ≤ 200 := by
  unfold rightG at h
  split at h
  · omega
  · omega
def growS (T : MT IP) (o : O3) (a : An) : MT IP := if a.err ≠ 0 then T else if o.1 = 1 then ins T (o.2.1, o.2.2) else if o.1 = 3 then del T o.2.1 else T
def growT (z : List (O3 × An)) : MT IP := z.foldl (fun T p => growS T p.1 p.2) .nil
theorem growT_snoc (z : List (O3 × An)) (k : Nat) (h : k < z.length) : growT (z.take (k + 1)) = growS (growT (z.take k)) z[k].1 z[k].2 := by
  rw [List.take_succ_eq_append_getElem h, growT, List.foldl_append]; rfl
theorem growS_size (T : MT IP) (o : O3) (a : An) : (growS T o a).size ≤ T.size + 1 := by
  unfold growS
  split
  · omega
  · split
    · exact ins_size _ _
    · split
      · have := del_size T o.2.1; omega
      · omega
theorem growT_size (z : List (O3 × An)) (k : Nat) (h : k ≤ z.length) : (growT (z.take k)).size ≤ k := by
  induction k with
  | zero => simp [growT, MT.size]
  | succ k ih => rw [growT_snoc z k (by omega)]; have := growS_size (growT (z.take k)) z[k].1 z[k].2; have := ih (by omega); omega
def opsZ (ops : List O3) : List (O3 × An) := ops.zip (runL ops).2
def growRun (ops : List O3) : List IP × List An × Int := if ops.length > 300 then ([], [], 2) else ((growT (opsZ ops)).spotsBy Prod.fst 0, (runL ops).2, 0)
end Go.Proofs.YtpkkajglbklboaaDoor
namespace Go.Proofs.YtpkkajglbklboaaDoor
open Go.ChangeShapes Go.WideShapes Go.ChangeAt Go.RowKit
set_option linter.unusedVariables false
set_option linter.unusedSimpArgs false

/-- The tree of places. -/
inductive PT where
  | nil
  | node (p : Nat) (l r : PT)
def PT.size : PT → Nat
  | .nil => 0
  | .node _ l r => l.size + 1 + r.size
/-- In order the places are off, off + 1, .. -/
def PT.At : PT → Nat → Prop
  | .nil, _ => True
  | .node p l r, off => p = off + l.size ∧ l.At off ∧ r.At (p + 1)
def PT.pars : PT → Int → List Int
  | .nil, _ => []
  | .node p l r, up => l.pars p ++ [up] ++ r.pars p
def PT.deps : PT → Int → List Int
  | .nil, _ => []
  | .node p l r, d => l.deps (d + 1) ++ [d] ++ r.deps (d + 1)
theorem PT.pars_len : ∀ (t : PT) (up : Int), (t.pars up).length = t.size
  | .nil, _ => rfl
  | .node p l r, up => by simp [pars, size, pars_len l, pars_len r]; omega
theorem PT.deps_len : ∀ (t : PT) (d : Int), (t.deps d).length = t.size
  | .nil, _ => rfl
  | .node p l r, d => by simp [deps, size, deps_len l, deps_len r]; omega
end Go.Proofs.YtpkkajglbklboaaDoor
namespace Go.Proofs.YtpkkajglbklboaaDoor
open Go.ChangeShapes Go.WideShapes Go.ChangeAt Go.RowKit
set_option linter.unusedVariables false
set_option linter.unusedSimpArgs false

/-- The place of the first least depth of so many spots, and whether it is alone. -/
def topF (l : List IP) : Nat → Nat → Nat → Bool → Nat × Bool
  | 0, _, a, al => (a, al)
  | n + 1, k, a, al => if gv l k < gv l a then topF l n (k + 1) k true else if gv l k = gv l a then topF l n (k + 1) a false else topF l n (k + 1) a al
def topS (l : List IP) (lo hi : Nat) : Nat × Bool := topF l (hi - (lo + 1)) (lo + 1) lo true
theorem topF_in (l : List IP) (lo hi : Nat) : ∀ n k a al, lo ≤ a → a < hi → k + n ≤ hi → lo ≤ k → lo ≤ (topF l n k a al).1 ∧ (topF l n k a al).1 < hi
  | 0, k, a, al, h1, h2, _, _ => ⟨h1, h2⟩
  | n + 1, k, a, al, h1, h2, h3, h4 => by
    unfold topF
    split
    · exact topF_in l lo hi n (k + 1) k true h4 (by omega) (by omega) (by omega)
    · split
      · exact topF_in l lo hi n (k + 1) a false h1 h2 (by omega) (by omega)
      · exact topF_in l lo hi n (k + 1) a al h1 h2 (by omega) (by omega)
theorem topS_in (l : List IP) (lo hi : Nat) (h : lo < hi) : lo ≤ (topS l lo hi).1 ∧ (topS l lo hi).1 < hi := topF_in l lo hi _ _ _ _ (Nat.le_refl _) h (by omega) (by omega)

def TopRel (l : List IP) (lo hi : Nat) (w : World) (av alv iv : Value) (wr : World) : Prop :=
  ∃ (k a : Nat) (al : Bool), k ≤ hi ∧ a < hi ∧ iv = .int .i64 k ∧ av = .int .i64 a ∧ alv = .bool al ∧ topF l (hi - k) k a al = topS l lo hi ∧ ∃ n, wr = w.drewN n

set_option maxHeartbeats 1000000 in
theorem top_any (l : List IP) (v : Value) (lo hi : Nat) (w : World) (hr : RD w ePair v l) (h1 : lo < hi) (h2 : hi ≤ l.length) :
    Calls Tryd.prog 69 #[v, .int .i64 (lo : Int), .int .i64 (hi : Int)] w (Drew (.tuple #[.int .i64 ((topS l lo hi).1 : Nat), .bool (topS l lo hi).2]) w) := by
  obtain ⟨A, c, rfl, hc, hm⟩ := hr.shape
  have HR := hide hr
  clear hr
  have b1 : (lo : Int) + 1 ≤ (hi : Int) := by omega
  have b2 : (hi : Int) ≤ 9223372036854775807 := by omega
  go_enter Tryd.func69, Tryd.ntmps69
  go_wp2
  go_loopw [8, 9, 10] (TopRel l lo hi w) (fun _ _ i _ => hi - (intOf i).toNat)
  case atStart => exact ⟨lo + 1, lo, true, by omega, by omega, by go_num, rfl, rfl, rfl, 0, rfl⟩
  case round =>
    obtain ⟨k, a, al, hk, ha, rfl, rfl, rfl, htop, n, rfl⟩ := hrel
    have HT := hide htop
    clear htop
    by_cases hlt : k < hi
    · obtain ⟨b, o, rfl, hb, c0, c1⟩ := (HR.out).pair (k := k) (by omega)
      obtain ⟨b', o', e1, _, d0, d1⟩ := (HR.out).pair (k := a) (by omega)
      injection e1 with e1
      injection e1 with e2 e3
      subst e2 e3
      have hst : Hid (topF l (hi - k) k a al = if gv l k < gv l a then topF l (hi - (k + 1)) (k + 1) k true else if gv l k = gv l a then topF l (hi - (k + 1)) (k + 1) a false else topF l (hi - (k + 1)) (k + 1) a al) :=
        hide (by rw [show hi - k = (hi - (k + 1)) + 1 from by omega, topF])
      have hg1 := gv_eq l k (by omega)
      have hg2 := gv_eq l a (by omega)
      have b3 : (k : Int) < (l.length : Int) := by omega
      have b4 : (a : Int) < (l.length : Int) := by omega
      have b5 : (0 : Int) ≤ (k : Int) := by omega
      have b6 : (0 : Int) ≤ (a : Int) := by omega
      rcases Int.lt_trichotomy l[k].2 l[a].2 with hd | hd | hd
      · have hn : Hid (topF l (hi - (k + 1)) (k + 1) k true = topS l lo hi) := hide (by rw [← HT.out, hst.out, if_pos (by rw [hg1, hg2]; exact hd)])
        clear hg1 hg2
        go_wp2_with fail
        go_quiet (fail)
        go_wp2
        go_roundw
        case rel => exact ⟨k + 1, k, true, by omega, by omega, by go_num, rfl, rfl, hn.out, _, rfl⟩
        case measure => simp [intOf]; omega
      · have hn : Hid (topF l (hi - (k + 1)) (k + 1) a false = topS l lo hi) := hide (by rw [← HT.out, hst.out, if_neg (by rw [hg1, hg2]; omega), if_pos (by rw [hg1, hg2]; exact hd)])
        have hq1 : decide (l[k].2 < l[a].2) = false := by simp; omega
        have hq2 : (l[k].2 == l[a].2) = true := by simp; omega
        clear hg1 hg2 hd
        go_wp2_with fail
        go_quiet (fail)
        go_wp2_with fail
        go_quiet (fail)
        go_wp2
        go_roundw
        case rel => exact ⟨k + 1, a, false, by omega, by omega, by go_num, rfl, rfl, hn.out, _, rfl⟩
        case measure => simp [intOf]; omega
      · have hn : Hid (topF l (hi - (k + 1)) (k + 1) a al = topS l lo hi) := hide (by rw [← HT.out, hst.out, if_neg (by rw [hg1, hg2]; omega), if_neg (by rw [hg1, hg2]; omega)])
        have hq1 : decide (l[k].2 < l[a].2) = false := by simp; omega
        have hq2 : (l[k].2 == l[a].2) = false := by simp; omega
        clear hg1 hg2 hd
        go_wp2_with fail
        go_quiet (fail)
        go_wp2_with fail
        go_quiet (fail)
        go_wp2
        go_roundw
        case rel => exact ⟨k + 1, a, al, by omega, by omega, by go_num, rfl, rfl, hn.out, _, rfl⟩
        case measure => simp [intOf]; omega
    · have hn : Hid (((a : Nat), al) = topS l lo hi) := hide (by rw [← HT.out, show hi - k = 0 from by omega]; rfl)
      go_wp2
      go_ret2
      exact ⟨by rw [← hn.out]; rfl, _, rfl⟩

/-- The tree of places of so many spots, from a depth on. -/
def ptR (l : List IP) (lo hi : Nat) (d : Int) : Option PT :=
  if h : lo < hi then
    have := topS_in l lo hi h
    if (topS l lo hi).2 = true ∧ gv l (topS l lo hi).1 = d then
      match ptR l lo (topS l lo hi).1 (d + 1), ptR l ((topS l lo hi).1 + 1) hi (d + 1) with
      | some a, some b => some (.node (topS l lo hi).1 a b)
      | _, _ => none
    else none
  else some .nil
termination_by hi - lo
theorem ptR_nil (l : List IP) (lo hi : Nat) (d : Int) (h : ¬ lo < hi) : ptR l lo hi d = some .nil := by rw [ptR, dif_neg h]
theorem ptR_node (l : List IP) (lo hi : Nat) (d : Int) (h : lo < hi) (at_ : Nat) (ht : topS l lo hi = (at_, true)) (hd : gv l at_ = d) :
    ptR l lo hi d = match ptR l lo at_ (d + 1), ptR l (at_ + 1) hi (d + 1) with
      | some a, some b => some (.node at_ a b)
      | _, _ => none := by
  rw [ptR, dif_pos h]
  simp only [ht, hd, and_self, if_true]
theorem ptR_none (l : List IP) (lo hi : Nat) (d : Int) (h : lo < hi) (hn : ¬ ((topS l lo hi).2 = true ∧ gv l (topS l lo hi).1 = d)) : ptR l lo hi d = none := by
  rw [ptR, dif_pos h]
  simp only [if_neg hn]
theorem ptR_size (l : List IP) (lo hi : Nat) (d : Int) (t : PT) (hlh : lo ≤ hi) (h : ptR l lo hi d = some t) : t.size = hi - lo := by
  by_cases h0 : lo < hi
  · have ht := topS_in l lo hi h0
    by_cases h1 : (topS l lo hi).2 = true ∧ gv l (topS l lo hi).1 = d
    · rw [ptR_node l lo hi d h0 (topS l lo hi).1 (by rw [← h1.1]) h1.2] at h
      cases ha : ptR l lo (topS l lo hi).1 (d + 1) with
      | none => rw [ha] at h; simp at h
      | some a =>
        cases hb : ptR l ((topS l lo hi).1 + 1) hi (d + 1) with
        | none => rw [ha, hb] at h; simp at h
        | some b =>
          rw [ha, hb] at h
          simp only [Option.some.injEq] at h
          subst h
          have h2 := ptR_size l lo (topS l lo hi).1 (d + 1) a ht.1 ha
          have h3 := ptR_size l ((topS l lo hi).1 + 1) hi (d + 1) b (by omega) hb
          simp only [PT.size]
          omega
    · rw [ptR_none l lo hi d h0 h1] at h
      cases h
  · rw [ptR_nil l lo hi d h0] at h
    injection h with h
    subst h
    simp [PT.size]; omega
termination_by hi - lo

def PPost (l : List IP) (g lo hi : Nat) (above d : Int) (out : List Int) (r : Bool) (w : World) (e : Ending) (w' : World) : Prop :=
  ∃ out' : List Int, e = .returned (.bool r) ∧ AR w' g 3 eInt out' ∧ out'.length = out.length ∧ Kg g w w' ∧ (∀ j, (j < lo ∨ hi ≤ j) → out'[j]? = out[j]?) ∧
    ∀ t, ptR l lo hi d = some t → ∀ j, j < hi - lo → out'[lo + j]? = (t.pars above)[j]?

set_option maxRecDepth 100000 in
set_option maxHeartbeats 1000000 in
theorem parents_any (l : List IP) (v : Value) (g : Nat) (hl : l.length ≤ 1000) (hvg : 0 < l.length → v.ownBlock ≠ some g) (n : Nat) : ∀ (lo hi : Nat) (above d : Int) (out : List Int) (r : Bool) (w : World), hi - lo ≤ n → lo ≤ hi → hi ≤ l.length → 0 ≤ d → d + n ≤ 1000000 →
    RD w ePair v l → AR w g 3 eInt out → out.length = l.length → (ptR l lo hi d).isSome = r →
    Calls Tryd.prog 57 #[v, .int .i64 (lo : Int), .int .i64 (hi : Int), .int .i64 above, .int .i64 d, .slice (some ⟨g, 0, none⟩) out.length out.length] w (PPost l g lo hi above d out r w) := by
  induction n with
  | zero =>
    intro lo hi above d out r w h1 h2 h3 h4 h5 hr ha hol hres
    obtain rfl : lo = hi := by omega
    have hpt := ptR_nil l lo lo d (by omega)
    rw [hpt] at hres
    obtain rfl : true = r := hres
    have HPT := hide hpt
    have HA := hide ha
    clear hpt hr ha hol hvg
    go_enter Tryd.func57, Tryd.ntmps57
    go_wp2
    go_ret
    exact ⟨out, rfl, HA.out, rfl, Kg.refl _ _, fun _ _ => rfl, fun t ht j hj => by omega⟩
  | succ n ih =>
    intro lo hi above d out r w h1 h2 h3 h4 h5 hr ha hol hres
    by_cases hlt : lo < hi
    · have hne : ((lo : Int) == (hi : Int)) = false := by simp; omega
      have htin := topS_in l lo hi hlt
      obtain ⟨⟨at_, al⟩, htop⟩ : ∃ p, p = topS l lo hi := ⟨_, rfl⟩
      rw [← htop] at htin
      have HTC := hide (fun w h => top_any l v lo hi w h hlt h3)
      rw [← htop] at HTC
      simp only at htin HTC
      obtain ⟨hi1, hi2⟩ := htin
      have HR := hide hr
      have HA := hide ha
      have HIH := hide ih
      have HVG := hide hvg
      clear hr ha ih hvg
      cases al with
      | false =>
        have hpt := ptR_none l lo hi d hlt (by rw [← htop]; simp)
        rw [hpt] at hres
        obtain rfl : false = r := hres
        have HPT := hide hpt
        clear hpt hol htop
        go_enter Tryd.func57, Tryd.ntmps57
        go_wp2_with (go_at_call 69; refine (HTC.out _ HR.out).mono ?_; rintro e w1 ⟨rfl, m, rfl⟩)
        go_ret
        exact ⟨out, rfl, HA.out, rfl, Kg.of (Kp.refl _).drewN, fun _ _ => rfl, fun t ht => by rw [HPT.out] at ht; cases ht⟩
      | true =>
        obtain ⟨A, c, rfl, hc, hm⟩ := HR.out.shape
        have hatl : at_ < l.length := by omega
        obtain ⟨b, o, rfl, hb, c0, c1⟩ := HR.out.pair (k := at_) hatl
        have hgv := gv_eq l at_ hatl
        have b1 : (at_ : Int) < (l.length : Int) := by omega
        by_cases hd : l[at_].2 = d
        · have hpt := ptR_node l lo hi d hlt at_ htop.symm (by rw [hgv, hd])
          have HD := hide hd
          have hnd : (l[at_].2 != d) = false := by simp [hd]
          clear hd hgv htop
          have HPT := hide hpt
          clear hpt
          have hw : IntKind.i64.wrap (d + 1) = d + 1 := IntWalk.i64_in _ (by omega)
          obtain ⟨x0, y0⟩ : ∃ x, w.cell? ⟨g, at_, none⟩ = some x := ⟨_, HA.out.int (by omega)⟩
          have f0 : w.frozen? ⟨g, at_, none⟩ = false := HA.out.frozen _
          have hgw := HA.out.lt
          have b2 : (at_ : Int) < (out.length : Int) := by omega
          have b3 : (out.length : Int) ≤ 1000 := by omega
          have HOL := hide hol
          clear hol
          have hsl : (out.set at_ above).length = out.length := by simp
          have HC1 := hide (fun r W (h : Kg g w W) (h2 : AR W g 3 eInt (out.set at_ above)) hr => HIH.out lo at_ at_ (d + 1) (out.set at_ above) r W (by omega) (by omega) (by omega) (by omega) (by omega) (HR.out.kg HVG.out h) h2 (by rw [hsl, HOL.out]) hr)
          have HC2 := hide (fun r W (out1 : List Int) (h0 : out1.length = out.length) (h : Kg g w W) (h2 : AR W g 3 eInt out1) hr => HIH.out (at_ + 1) hi at_ (d + 1) out1 r W (by omega) (by omega) (by omega) (by omega) (by omega) (HR.out.kg HVG.out h) h2 (by rw [h0, HOL.out]) hr)
          rw [hsl] at HC1
          have HSL := hide hsl
          clear hsl
          have tn : ((at_ : Int) + 1).toNat = at_ + 1 := by omega
          cases hpa : ptR l lo at_ (d + 1) with
          | none =>
            have hpn : ptR l lo hi d = none := by rw [HPT.out, hpa]
            rw [hpn] at hres
            obtain rfl : false = r := hres
            have HPN := hide hpn
            have HPA := hide hpa
            clear hpn hpa
            go_enter Tryd.func57, Tryd.ntmps57
            go_wp2_with (go_at_call 69; refine (HTC.out _ HR.out).mono ?_; rintro e w1 ⟨rfl, m, rfl⟩)
            refine (HC1.out false _ (Kg.of (Kp.refl w).drewN).set (HA.out.drewN.set above) (by rw [HPA.out]; rfl)).mono ?_
            rintro e w2 ⟨out1, rfl, ha1, hl1, hk1, hs1, ht1⟩
            have HA1 := hide ha1
            have HS1 := hide hs1
            have HL1 := hide hl1
            clear ha1 hl1 hs1 ht1
            go_wp2
            go_ret
            refine ⟨out1, rfl, HA1.out, by rw [HL1.out, HSL.out], (Kg.of (Kp.refl w).drewN).set.trans hk1, fun j hj => ?_, fun t ht => by rw [HPN.out] at ht; cases ht⟩
            rw [HS1.out j (by omega), List.getElem?_set_ne (by omega)]
          | some ta =>
            have hsa := ptR_size l lo at_ (d + 1) ta hi1 hpa
            cases hpb : ptR l (at_ + 1) hi (d + 1) with
            | none =>
              have hpn : ptR l lo hi d = none := by rw [HPT.out, hpa, hpb]
              rw [hpn] at hres
              obtain rfl : false = r := hres
              have HPN := hide hpn
              have HPA := hide hpa
              have HPB := hide hpb
              clear hpn hpa hpb hsa
              go_enter Tryd.func57, Tryd.ntmps57
              go_wp2_with (go_at_call 69; refine (HTC.out _ HR.out).mono ?_; rintro e w1 ⟨rfl, m, rfl⟩)
              refine (HC1.out true _ (Kg.of (Kp.refl w).drewN).set (HA.out.drewN.set above) (by rw [HPA.out]; rfl)).mono ?_
              rintro e w2 ⟨out1, rfl, ha1, hl1, hk1, hs1, ht1⟩
              have HA1 := hide ha1
              have HS1 := hide hs1
              have hk1' : Kg g w w2 := (Kg.of (Kp.refl w).drewN).set.trans hk1
              have hl1' : out1.length = out.length := by rw [hl1, HSL.out]
              have HC := HC2.out false w2 out1 hl1' hk1' HA1.out (by rw [HPB.out]; rfl)
              rw [hl1'] at HC
              have HCH := hide HC
              have HL1 := hide hl1'
              clear ha1 hl1 hs1 ht1 HC hl1'
              go_wp2_with fail
              refine HCH.out.mono ?_
              rintro e w3 ⟨out2, rfl, ha2, hl2, hk2, hs2, ht2⟩
              have HA2 := hide ha2
              have HS2 := hide hs2
              have HL2 := hide hl2
              clear ha2 hl2 hs2 ht2
              go_wp2
              go_ret
              refine ⟨out2, rfl, HA2.out, by rw [HL2.out, HL1.out], hk1'.trans hk2, fun j hj => ?_, fun t ht => by rw [HPN.out] at ht; cases ht⟩
              rw [HS2.out j (by omega), HS1.out j (by omega), List.getElem?_set_ne (by omega)]
            | some tb =>
              have hpn : ptR l lo hi d = some (.node at_ ta tb) := by rw [HPT.out, hpa, hpb]
              rw [hpn] at hres
              obtain rfl : true = r := hres
              have HPN := hide hpn
              have HPA := hide hpa
              have HPB := hide hpb
              have HSA := hide hsa
              clear hpn hpa hpb hsa
              go_enter Tryd.func57, Tryd.ntmps57
              go_wp2_with (go_at_call 69; refine (HTC.out _ HR.out).mono ?_; rintro e w1 ⟨rfl, m, rfl⟩)
              refine (HC1.out true _ (Kg.of (Kp.refl w).drewN).set (HA.out.drewN.set above) (by rw [HPA.out]; rfl)).mono ?_
              rintro e w2 ⟨out1, rfl, ha1, hl1, hk1, hs1, ht1⟩
              have HA1 := hide ha1
              have HS1 := hide hs1
              have HT1 := hide ht1
              have hk1' : Kg g w w2 := (Kg.of (Kp.refl w).drewN).set.trans hk1
              have hl1' : out1.length = out.length := by rw [hl1, HSL.out]
              have HC := HC2.out true w2 out1 hl1' hk1' HA1.out (by rw [HPB.out]; rfl)
              rw [hl1'] at HC
              have HCH := hide HC
              have HL1 := hide hl1'
              clear ha1 hl1 hs1 ht1 HC hl1'
              go_wp2_with fail
              refine HCH.out.mono ?_
              rintro e w3 ⟨out2, rfl, ha2, hl2, hk2, hs2, ht2⟩
              have HA2 := hide ha2
              have HS2 := hide hs2
              have HL2 := hide hl2
              have HT2 := hide ht2
              clear ha2 hl2 hs2 ht2
              go_wp2
              go_ret
              refine ⟨out2, rfl, HA2.out, by rw [HL2.out, HL1.out], hk1'.trans hk2, fun j hj => ?_, fun t ht j hj => ?_⟩
              · rw [HS2.out j (by omega), HS1.out j (by omega), List.getElem?_set_ne (by omega)]
              · rw [HPN.out] at ht
                injection ht with ht
                subst ht
                have hsa := HSA.out
                have hpl := PT.pars_len ta (at_ : Int)
                have h9 := HOL.out
                simp only [PT.pars, List.append_assoc]
                rcases Nat.lt_trichotomy j (at_ - lo) with hj1 | hj1 | hj1
                · rw [HS2.out _ (by omega), HT1.out ta HPA.out j hj1, List.getElem?_append_left (by omega)]
                · rw [HS2.out _ (by omega), HS1.out _ (by omega), List.getElem?_append_right (by omega), hpl, show j - ta.size = 0 from by omega]
                  rw [show lo + j = at_ from by omega, List.getElem?_set_self (by omega)]
                  rfl
                · have h8 := HT2.out tb HPB.out (j - (at_ + 1 - lo)) (by omega)
                  rw [show at_ + 1 + (j - (at_ + 1 - lo)) = lo + j from by omega] at h8
                  rw [h8, List.getElem?_append_right (by omega), hpl, show j - ta.size = (j - (at_ + 1 - lo)) + 1 from by omega]
                  rfl
        · have hpt := ptR_none l lo hi d hlt (by rw [← htop]; simp only [hgv]; exact fun h => hd h.2)
          rw [hpt] at hres
          obtain rfl : false = r := hres
          have HPT := hide hpt
          have hnd : (l[at_].2 != d) = true := by simp [hd]
          clear hpt hol htop hd hgv
          go_enter Tryd.func57, Tryd.ntmps57
          go_wp2_with (go_at_call 69; refine (HTC.out _ HR.out).mono ?_; rintro e w1 ⟨rfl, m, rfl⟩)
          go_ret
          exact ⟨out, rfl, HA.out, rfl, Kg.of (Kp.refl _).drewN, fun _ _ => rfl, fun t ht => by rw [HPT.out] at ht; cases ht⟩
    · obtain rfl : lo = hi := by omega
      have hpt := ptR_nil l lo lo d (by omega)
      rw [hpt] at hres
      obtain rfl : true = r := hres
      have HPT := hide hpt
      have HA := hide ha
      clear hpt hr ha hol hvg ih
      go_enter Tryd.func57, Tryd.ntmps57
      go_wp2
      go_ret
      exact ⟨out, rfl, HA.out, rfl, Kg.refl _ _, fun _ _ => rfl, fun t ht j hj => by omega⟩
end Go.Proofs.YtpkkajglbklboaaDoor
namespace Go.Proofs.YtpkkajglbklboaaDoor
open Go.ChangeShapes Go.WideShapes Go.ChangeAt Go.RowKit
set_option linter.unusedVariables false
set_option linter.unusedSimpArgs false

def gk (l : List IP) (k : Nat) : Int := (l.getD k (0, 0)).1
theorem gk_eq (l : List IP) (k : Nat) (h : k < l.length) : gk l k = l[k].1 := by simp [gk, List.getD_eq_getElem?_getD, List.getElem?_eq_getElem h]
def walkF (l : List IP) (last : Bool) (lo hi : Nat) : List Int :=
  if h : lo < hi then
    have := topS_in l lo hi h
    if last then walkF l last lo (topS l lo hi).1 ++ walkF l last ((topS l lo hi).1 + 1) hi ++ [gk l (topS l lo hi).1]
    else [gk l (topS l lo hi).1] ++ walkF l last lo (topS l lo hi).1 ++ walkF l last ((topS l lo hi).1 + 1) hi
  else []
termination_by hi - lo
theorem walkF_nil (l : List IP) (last : Bool) (lo hi : Nat) (h : ¬ lo < hi) : walkF l last lo hi = [] := by rw [walkF, dif_neg h]
theorem walkF_last (l : List IP) (lo hi : Nat) (h : lo < hi) : walkF l true lo hi = walkF l true lo (topS l lo hi).1 ++ walkF l true ((topS l lo hi).1 + 1) hi ++ [gk l (topS l lo hi).1] := by rw [walkF, dif_pos h, if_pos rfl]
theorem walkF_first (l : List IP) (lo hi : Nat) (h : lo < hi) : walkF l false lo hi = [gk l (topS l lo hi).1] ++ walkF l false lo (topS l lo hi).1 ++ walkF l false ((topS l lo hi).1 + 1) hi := by rw [walkF, dif_pos h, if_neg (by simp)]
theorem walkF_len (l : List IP) (last : Bool) (lo hi : Nat) : (walkF l last lo hi).length = hi - lo := by
  by_cases h : lo < hi
  · have ht := topS_in l lo hi h
    have h1 := walkF_len l last lo (topS l lo hi).1
    have h2 := walkF_len l last ((topS l lo hi).1 + 1) hi
    cases last
    · rw [walkF_first l lo hi h]; simp [h1, h2]; omega
    · rw [walkF_last l lo hi h]; simp [h1, h2]; omega
  · rw [walkF_nil l last lo hi h]; simp; omega
termination_by hi - lo

theorem seg_split (l : List IP) (lo at_ hi : Nat) (h1 : lo ≤ at_) (h2 : at_ < hi) (h3 : hi ≤ l.length) : (l.take hi).drop lo = (l.take at_).drop lo ++ [l[at_]'(by omega)] ++ (l.take hi).drop (at_ + 1) := by
  apply List.ext_getElem?
  intro j
  by_cases hj : j < hi - lo
  · rw [List.getElem?_drop, List.getElem?_take, if_pos (by omega)]
    rcases Nat.lt_trichotomy (lo + j) at_ with h | h | h
    · rw [List.append_assoc, List.getElem?_append_left (by simp; omega), List.getElem?_drop, List.getElem?_take, if_pos h]
    · rw [List.append_assoc, List.getElem?_append_right (by simp; omega)]
      rw [show j - (List.drop lo (List.take at_ l)).length = 0 from by simp; omega]
      rw [h]; simp
    · rw [List.getElem?_append_right (by simp; omega)]
      simp only [List.length_append, List.length_drop, List.length_take, List.length_singleton]
      rw [List.getElem?_drop, List.getElem?_take, if_pos (by omega)]
      congr 1; omega
  · rw [List.getElem?_eq_none (by simp; omega), List.getElem?_eq_none (by simp; omega)]
end Go.Proofs.YtpkkajglbklboaaDoor
namespace Go.Proofs.YtpkkajglbklboaaDoor
open Go.ChangeShapes Go.WideShapes Go.ChangeAt Go.RowKit
set_option linter.unusedVariables false
set_option linter.unusedSimpArgs false

def parOf (l : List IP) : List Int × Int := if mapRight l ≠ 0 then ([], mapRight l) else match ptR l 0 l.length 0 with | some t => (t.pars (-1), 0) | none => ([], 3)
theorem btw_t {n lo hi : Int} (h : lo ≤ n) (h2 : n ≤ hi) : btw n lo hi = true := (btw_iff _ _ _).2 ⟨h, h2⟩
theorem btw_f {n lo hi : Int} (h : n < lo ∨ hi < n) : btw n lo hi = false := (btw_f_iff _ _ _).2 (by omega)
set_option maxRecDepth 100000 in
set_option maxHeartbeats 2000000 in
theorem read_any (l : List IP) (v : Value) (w : World) (hr : RD w ePair v l) : Calls Tryd.prog 44 #[v] w (Ret2 eInt (parOf l) w) := by
  obtain ⟨A, c, rfl, hc, hm⟩ := hr.shape
  by_cases hlen : l.length > 200
  · have hmr : mapRight l = 2 := by rw [mapRight, if_pos hlen]
    have H1 : Hid (parOf l = ([], 2)) := hide (by rw [parOf, hmr, if_pos (by decide)])
    clear hmr
    go_enter Tryd.func44, Tryd.ntmps44
    go_wp2
    go_ret2
    exact ⟨_, by rw [H1.out]; rfl, by rw [H1.out]; exact RD.nil, Below.refl _ _⟩
  · have hres : Hid (mapRight l = mrFrom (-1) l) := hide (by simp [mapRight, hlen])
    have h3f : Hid (mrFrom (-1) l = 3 → parOf l = ([], 3)) := hide (fun h => by rw [parOf, hres.out, h, if_pos (by decide)])
    obtain ⟨C, hC, hmk⟩ := run_mk row_int 0 zero_int l.length (by omega) (by simp [maxLen]; omega)
    have HR := hide hr
    clear hr
    go_enter Tryd.func44, Tryd.ntmps44
    go_wp2
    go_loopw [12] (CRel l w) (fun i wr => l.length - (intOf i).toNat)
    case atStart => exact ⟨0, -1, by omega, rfl, by omega, by omega, fun _ => rfl, fun _ h => by omega, rfl, Below.refl _ _⟩
    case round =>
      obtain ⟨k, last, hk, rfl, h1, h2, h3, h4, hmr, hbel⟩ := hrel
      have hmr' := hide hmr
      clear hmr
      have hz := hbel.size
      by_cases hlt : k < l.length
      · obtain ⟨b, o, rfl, hb, c0, c1⟩ := (HR.out.below hbel).pair hlt
        have hd := mrFrom_drop l k hlt last
        have hkp : Kp w wr := hbel
        by_cases hlo : l[k].1 < 0
        · rw [btw_f (.inl (by omega)), if_neg (by simp)] at hd
          have HP := hide (h3f.out (by rw [← hmr'.out, hd]))
          clear hd h3 h4
          go_wp2_with fail
          go_quiet (fail)
          go_wp2
          go_ret2
          exact ⟨_, by rw [HP.out]; rfl, by rw [HP.out]; exact RD.nil, Kp.bel (by (focus ((repeat (first | (with_reducible assumption) | (with_reducible exact Kp.refl _) | (with_reducible apply Kp.drew) | (with_reducible apply Kp.drewN) | ((with_reducible apply Kp.setR); (focus (first | (with_reducible assumption) | (simp; done) | (simp; omega)))) | (with_reducible apply Kp.alloc) | ((with_reducible apply Kp.call); (with_reducible assumption)) | ((with_reducible apply Kp.app); (with_reducible assumption)))); done)))⟩
        · by_cases hhi : 1000000 < l[k].1
          · rw [btw_f (.inr hhi), if_neg (by simp)] at hd
            have HP := hide (h3f.out (by rw [← hmr'.out, hd]))
            have hg3 : decide (l[k].1 < 0) = false := by simp; omega
            clear hd h3 h4 hlo
            go_wp2_with fail
            go_quiet (fail)
            go_wp2
            go_ret2
            exact ⟨_, by rw [HP.out]; rfl, by rw [HP.out]; exact RD.nil, Kp.bel (by (focus ((repeat (first | (with_reducible assumption) | (with_reducible exact Kp.refl _) | (with_reducible apply Kp.drew) | (with_reducible apply Kp.drewN) | ((with_reducible apply Kp.setR); (focus (first | (with_reducible assumption) | (simp; done) | (simp; omega)))) | (with_reducible apply Kp.alloc) | ((with_reducible apply Kp.call); (with_reducible assumption)) | ((with_reducible apply Kp.app); (with_reducible assumption)))); done)))⟩
          · by_cases hk0 : k = 0
            · have hl : last = -1 := h3 hk0
              rw [btw_t (by omega) (by omega), if_pos rfl] at hd
              have HD := hide hd
              have hg : decide (0 < k) = false := by simp; omega
              have hg2 : decide (1000000 < l[k].1) = false := by simp; omega
              have hg3 : decide (l[k].1 < 0) = false := by simp; omega
              have HL := hide hl
              have HK0 := hide hk0
              have HN : Hid (0 ≤ l[k].1) := hide (by omega)
              have HN2 : Hid (l[k].1 ≤ 1000000) := hide (by omega)
              clear hd h3 h4 hl hk0 hlo hhi
              go_wp2_with fail
              go_quiet (fail)
              go_wp2
              go_roundw
              case rel => exact ⟨k+1, l[k].1, by omega, by go_num, by have := HN.out; omega, HN2.out, fun h => by omega, fun _ _ => ⟨rfl, HN.out⟩, by rw [← HD.out, hmr'.out], Kp.bel (by (focus ((repeat (first | (with_reducible assumption) | (with_reducible exact Kp.refl _) | (with_reducible apply Kp.drew) | (with_reducible apply Kp.drewN) | ((with_reducible apply Kp.setR); (focus (first | (with_reducible assumption) | (simp; done) | (simp; omega)))) | (with_reducible apply Kp.alloc) | ((with_reducible apply Kp.call); (with_reducible assumption)) | ((with_reducible apply Kp.app); (with_reducible assumption)))); done)))⟩
              case measure => simp [intOf]; omega
            · have hkm : k - 1 < l.length := by omega
              obtain ⟨hl, hl0⟩ := h4 hkm (by omega)
              obtain ⟨b2, o2, e2, _, c2, _⟩ := (HR.out.below hbel).pair (k := k - 1) hkm
              injection e2 with e2
              injection e2 with e3 e4
              subst e3 e4
              have hg : decide (0 < k) = true := by simp; omega
              have hw1 : IntKind.i64.wrap ((k : Int) - 1) = (k : Int) - 1 := IntWalk.i64_in _ (by omega)
              have hw2 : (0 : Int) ≤ (k : Int) - 1 := by omega
              have hw3 : (k : Int) - 1 < (l.length : Int) := by omega
              have hw4 : ((k : Int) - 1).toNat = k - 1 := by omega
              have hg2 : decide (1000000 < l[k].1) = false := by simp; omega
              have hg3 : decide (l[k].1 < 0) = false := by simp; omega
              by_cases hge : l[k].1 ≤ l[k-1].1
              · rw [btw_f (.inl (by omega)), if_neg (by simp)] at hd
                have HP := hide (h3f.out (by rw [← hmr'.out, hd]))
                clear hd h3 h4 hl hk0 hlo hhi
                go_wp2_with fail
                go_quiet (fail)
                go_wp2
                go_ret2
                exact ⟨_, by rw [HP.out]; rfl, by rw [HP.out]; exact RD.nil, Kp.bel (by (focus ((repeat (first | (with_reducible assumption) | (with_reducible exact Kp.refl _) | (with_reducible apply Kp.drew) | (with_reducible apply Kp.drewN) | ((with_reducible apply Kp.setR); (focus (first | (with_reducible assumption) | (simp; done) | (simp; omega)))) | (with_reducible apply Kp.alloc) | ((with_reducible apply Kp.call); (with_reducible assumption)) | ((with_reducible apply Kp.app); (with_reducible assumption)))); done)))⟩
              · rw [btw_t (by omega) (by omega), if_pos rfl] at hd
                have HD := hide hd
                have HL := hide hl
                have HN : Hid (0 ≤ l[k].1) := hide (by omega)
                have HN2 : Hid (l[k].1 ≤ 1000000) := hide (by omega)
                clear hd h3 h4 hl hk0 hlo hhi
                go_wp2_with fail
                go_quiet (fail)
                go_wp2
                go_roundw
                case rel => exact ⟨k+1, l[k].1, by omega, by go_num, by have := HN.out; omega, HN2.out, fun h => by omega, fun _ _ => ⟨rfl, HN.out⟩, by rw [← HD.out, hmr'.out], Kp.bel (by (focus ((repeat (first | (with_reducible assumption) | (with_reducible exact Kp.refl _) | (with_reducible apply Kp.drew) | (with_reducible apply Kp.drewN) | ((with_reducible apply Kp.setR); (focus (first | (with_reducible assumption) | (simp; done) | (simp; omega)))) | (with_reducible apply Kp.alloc) | ((with_reducible apply Kp.call); (with_reducible assumption)) | ((with_reducible apply Kp.app); (with_reducible assumption)))); done)))⟩
                case measure => simp [intOf]; omega
      · have hmr0 : mrFrom (-1) l = 0 := by rw [← hmr'.out, mrFrom_end _ _ hlt]
        have hpo : parOf l = match ptR l 0 l.length 0 with | some t => (t.pars (-1), 0) | none => ([], 3) := by rw [parOf, hres.out, hmr0]; simp
        have hkp : Kp w wr := hbel
        have hkl : k = l.length := by omega
        have HKL := hide hkl
        have HPO := hide hpo
        clear hmr0 hpo hmr' h3 h4 hkl
        have HRL : Hid ((List.replicate l.length (0 : Int)).length = l.length) := hide (by simp)
        have HCP := hide (fun r (hres : (ptR l 0 l.length 0).isSome = r) (h : AR (wr.alloc (.cells C 3)) wr.heap.size 3 eInt (List.replicate l.length (0 : Int))) (hx : 0 < l.length → (Value.slice A l.length c).ownBlock ≠ some wr.heap.size) =>
          parents_any l (.slice A l.length c) wr.heap.size (by omega) hx 1000 0 l.length (-1) 0 (List.replicate l.length 0) r (wr.alloc (.cells C 3)) (by omega) (by omega) (by omega) (by omega) (by omega) ((HR.out.kp hkp).alloc _) h HRL.out hres)
        rw [HRL.out] at HCP
        simp only [Int.natCast_zero] at HCP
        have hx : Hid (0 < l.length → (Value.slice A l.length c).ownBlock ≠ some wr.heap.size) := hide (fun h0 => by
          obtain ⟨b, o, e, hb, _⟩ := (HR.out.kp hkp).pair h0
          subst e
          intro e
          injection e with e
          simp at e
          omega)
        cases hpt : ptR l 0 l.length 0 with
        | none =>
          have HP : Hid (parOf l = ([], 3)) := hide (by rw [HPO.out, hpt])
          have HPT := hide hpt
          clear hpt
          go_wp2_with fail
          refine (HCP.out false (by rw [HPT.out]; rfl) (AR.made hC) hx.out).mono ?_
          rintro e w2 ⟨out1, rfl, ha1, hl1, hk1, hs1, ht1⟩
          have HA1 := hide ha1
          clear ha1 hl1 hs1 ht1
          go_wp2
          go_ret2
          exact ⟨_, by rw [HP.out]; rfl, by rw [HP.out]; exact RD.nil, (hk1.kp (Kp.alloc hkp) hkp.size).bel⟩
        | some t =>
          have HP : Hid (parOf l = (t.pars (-1), 0)) := hide (by rw [HPO.out, hpt])
          have hsz := ptR_size l 0 l.length 0 t (by omega) hpt
          have HPT := hide hpt
          clear hpt
          go_wp2_with fail
          refine (HCP.out true (by rw [HPT.out]; rfl) (AR.made hC) hx.out).mono ?_
          rintro e w2 ⟨out1, rfl, ha1, hl1, hk1, hs1, ht1⟩
          have he : out1 = t.pars (-1) := by
            have h9 := PT.pars_len t (-1)
            have h10 := HRL.out
            refine List.ext_getElem? fun j => ?_
            by_cases hj : j < l.length
            · have := ht1 t HPT.out j (by omega)
              rwa [Nat.zero_add] at this
            · rw [List.getElem?_eq_none (by omega), List.getElem?_eq_none (by omega)]
          subst he
          have HA1 := hide ha1
          clear ha1 hs1 ht1
          have HL1 : Hid ((t.pars (-1)).length = l.length) := hide (by rw [hl1, HRL.out])
          clear hl1
          go_wp2
          go_ret2
          refine ⟨_, by rw [HP.out]; rfl, ?_, (hk1.kp (Kp.alloc hkp) hkp.size).bel⟩
          rw [HP.out, ← HL1.out]
          exact HA1.out.rd (by rw [HL1.out]; unfold maxLen; omega)
end Go.Proofs.YtpkkajglbklboaaDoor
