/-
  plain.Run: what it answers. Conditions: the list of ops reads as ops (RD).
  grow.told, grow.Of, grow.Run: what they answer. Conditions: the lists read as they are named (RD).
-/
import Derived.Test.YtnallpdmdhbidaaGrowFirstM31
import Derived.Test.YtnallpdmdhbidaaGrowFirstM28
import Derived.Test.YtnallpdmdhbidaaGrowFirstM25

namespace Go.Proofs.Ytnallpdmdhbidaa
open Go.ChangeShapes Go.WideShapes Go.ChangeAt Go.RowKit
set_option linter.unusedVariables false
set_option linter.unusedSimpArgs false

def runS (s : List IP × List An) (o : O3) : List IP × List An := ((doA s.1 o.1 o.2.1 o.2.2).1, s.2 ++ [(doA s.1 o.1 o.2.1 o.2.2).2])
def runL (ops : List O3) : List IP × List An := ops.foldl runS ([], [])
def runOf (ops : List O3) : List IP × List An × Int := if ops.length > 300 then ([], [], 2) else ((runL ops).1, (runL ops).2, 0)
theorem runL_take (ops : List O3) (k : Nat) (h : k < ops.length) : runL (ops.take (k + 1)) = runS (runL (ops.take k)) ops[k] := by
  rw [List.take_succ_eq_append_getElem h, runL, List.foldl_append]; rfl
theorem runL_len (ops : List O3) (k : Nat) (h : k ≤ ops.length) : (runL (ops.take k)).2.length = k := by
  induction k with
  | zero => rfl
  | succ k ih =>
    rw [runL_take ops k (by omega), runS, List.length_append, ih (by omega)]; rfl
def RunPost (r : List IP × List An × Int) (w : World) (e : Ending) (w' : World) : Prop := ∃ v u, e = .returned (.tuple #[v, u, .int .i64 r.2.2]) ∧ RD w' ePair v r.1 ∧ RD w' eAns u r.2.1 ∧ Below w.heap.size w w'
def RnRel (ops : List O3) (w : World) (lv ov iv : Value) (wr : World) : Prop :=
  ∃ k : Nat, k ≤ ops.length ∧ iv = .int .i64 k ∧ OW wr w.heap.size 58 ePair lv (runL (ops.take k)).1 ∧ OW wr w.heap.size 54 eAns ov (runL (ops.take k)).2 ∧ Kp w wr

set_option maxRecDepth 100000 in
set_option maxHeartbeats 4000000 in
theorem run_any (ops : List O3) (v : Value) (w : World) (hr : RD w eOp v ops) : Calls Try.prog 33 #[v] w (RunPost (runOf ops) w) := by
  obtain ⟨A, c, rfl, hc, hm⟩ := hr.shape
  have HR := hide hr
  clear hr
  by_cases hlen : ops.length > 300
  · have H1 : Hid (runOf ops = ([], [], 2)) := hide (by rw [runOf, if_pos hlen])
    go_enter Try.func33, Try.ntmps33
    go_wp2
    go_ret3
    exact ⟨_, _, by rw [H1.out]; rfl, by rw [H1.out]; exact RD.nil, by rw [H1.out]; exact RD.nil, Below.refl _ _⟩
  · have H1 : Hid (runOf ops = ((runL ops).1, (runL ops).2, 0)) := hide (by rw [runOf, if_neg hlen])
    go_enter Try.func33, Try.ntmps33
    go_wp2
    go_loopw [5, 6, 16] (RnRel ops w) (fun _ _ i _ => ops.length - (intOf i).toNat)
    case atStart => exact ⟨0, by omega, rfl, OW.nil, OW.nil, Kp.refl _⟩
    case round =>
      obtain ⟨k, hk, rfl, hl, ho, hkp⟩ := hrel
      have hi := ho.hi
      have HLO := hide ho.lo
      have HL := hide hl
      have HO := hide ho
      have hol := runL_len ops k hk
      obtain ⟨A6, c6, hv6, hc6, hm6⟩ := ho.rd.shape
      rw [hol] at hv6 hc6
      subst hv6
      clear hl ho
      by_cases hlt : k < ops.length
      · obtain ⟨b, o, rfl, _, x0, x1, x2⟩ := (HR.out.kp hkp).op hlt
        have hst := runL_take ops k hlt
        obtain ⟨S, hS⟩ : ∃ S, S = runL (ops.take k) := ⟨_, rfl⟩
        rw [← hS] at HL HO hst hol
        obtain ⟨D, hD⟩ : ∃ D, D = doA S.1 ops[k].1 ops[k].2.1 ops[k].2.2 := ⟨_, rfl⟩
        have HST : Hid (runL (ops.take (k + 1)) = (D.1, S.2 ++ [D.2])) := hide (by rw [hst, runS, hD])
        have HD := hide (fun W v h => do_any S.1 ops[k].1 ops[k].2.1 ops[k].2.2 v W h)
        rw [← hD] at HD
        have HM1 : Hid ((S.2.length + [D.2].length) * 32 ≤ 140737488355328) := hide (by rw [hol]; simp; omega)
        have HM2 : Hid (S.2.length + [D.2].length ≤ maxLen) := hide (by rw [hol]; simp [maxLen]; omega)
        clear hst hD hS hol
        go_wp2_with fail
        refine (HD.out _ _ (HL.out.rd.alloc _)).mono ?_
        rintro e w2 ⟨v2, rfl, hr2, hb2⟩
        have hk2 : Kp wr w2 := (Kp.refl wr).alloc.trans hb2
        have HR2 := hide hr2
        have HO2 := hide (HO.out.kp hk2)
        obtain ⟨dl, da, db, dc, dd⟩ := D
        have hkw : Kp w w2 := hkp.trans hk2
        simp only [An.v]
        clear hr2 hb2
        go_wp2_with (at_builtin; (with_reducible refine list_app (B := w.heap.size) (l := S.2) (m := [(⟨da, db, dc, dd⟩ : An)]) row_ans (.slice A6 k c6) ?_ (.tmp 27) (.tmp 29) ?_ ?_ ?_ ?_ HM1.out HM2.out ?_ ?_); (with_reducible rfl); (with_reducible rfl); rfl; ((focus ((with_reducible apply OW.alloc); (with_reducible apply OW.alloc); exact HO2.out))); (show RD _ _ (.slice (some ⟨_, 0, none⟩) 1 1) _; (focus ((repeat (first | (with_reducible assumption) | exact RD.new1 _ rfl | (refine RD.new1e _ ?_ rfl; simp; done) | (with_reducible apply RD.alloc) | (with_reducible apply RD.drew) | (with_reducible apply RD.drewN) | ((with_reducible apply RD.belowR); (with_reducible assumption)))); done))); (exact Kp.size (w := w) (by (focus ((repeat (first | (with_reducible assumption) | (with_reducible exact Kp.refl _) | (with_reducible apply Kp.drew) | (with_reducible apply Kp.drewN) | ((with_reducible apply Kp.setR); (focus (first | (with_reducible assumption) | (simp; done) | (simp; omega)))) | (with_reducible apply Kp.alloc) | ((with_reducible apply Kp.call); (with_reducible assumption)) | ((with_reducible apply Kp.app); (with_reducible assumption)))); done)))); intro v3 w3 ho3 hg3 hat3)
        go_roundw
        case rel =>
          refine ⟨k + 1, by omega, by go_num, ?_, by rw [HST.out]; exact ho3, (by (focus ((repeat (first | (with_reducible assumption) | (with_reducible exact Kp.refl _) | (with_reducible apply Kp.drew) | (with_reducible apply Kp.drewN) | ((with_reducible apply Kp.setR); (focus (first | (with_reducible assumption) | (simp; done) | (simp; omega)))) | (with_reducible apply Kp.alloc) | ((with_reducible apply Kp.call); (with_reducible assumption)) | ((with_reducible apply Kp.app); (with_reducible assumption)))); done)))⟩
          rw [HST.out]
          have hap := Lo.apart HLO.out (Hi.mono HR2.out.hi (by simp))
          exact (OW.kept ((HR2.out.alloc _).alloc _) hg3 hap).more (by have := hkp.size; simp; omega)
        case measure => simp [intOf]; omega
      · have hkl : k = ops.length := by omega
        subst hkl
        have hS : Hid (ops.take ops.length = ops) := hide (by simp)
        clear hol
        go_wp2
        go_ret3
        exact ⟨_, _, by rw [H1.out]; rfl, by rw [H1.out, ← hS.out]; simpa using HL.out.rd, by rw [H1.out, ← hS.out]; simpa using HO.out.rd, hkp.bel⟩
end Go.Proofs.Ytnallpdmdhbidaa
namespace Go.Proofs.Ytnallpdmdhbidaa
open Go.ChangeShapes Go.WideShapes Go.ChangeAt Go.RowKit
set_option linter.unusedVariables false
set_option linter.unusedSimpArgs false

set_option maxRecDepth 100000 in
set_option maxHeartbeats 2000000 in
theorem growTold_any (t : MT IP) (p : Option Addr) (F : List Nat) (w : World) (hm : MR w 92 ePair t p F) (hs : t.size ≤ 1000) : Calls Try.prog 32 #[.pointer p] w (RetRD ePair (t.spotsBy Prod.fst 0) w) := by
  have HO := hide (OB.new (B := w.heap.size) (st := 24) (e := 38) (E := ePair) w (Nat.le_refl _))
  have HC := hide (grow_spots_any w.heap.size w.heap.size (Nat.le_refl _) t p F 0 [] _ (hm.kp (Kp.refl w).alloc) (by omega) (by omega) (by simp; omega) HO.out (by simp))
  clear hm
  go_enter Try.func32, Try.ntmps32
  go_wp2_with fail
  with_reducible refine HC.out.mono ?_
  rintro e w1 ⟨rfl, ho1, hk1⟩
  have k1 := hk1.none (Kp.refl w).alloc (Nat.le_refl _) (by simp [go_sem])
  rw [List.nil_append] at ho1
  obtain ⟨u, hb, hu, hn⟩ := ho1
  have g0 := hb.cell 0
  obtain ⟨A3, N3, c3, rfl⟩ := hu.rd.slice
  have HU := hide hu.rd
  have K1 := hide k1
  clear hk1 hb hu hn k1
  go_wp2
  go_ret
  exact ⟨_, rfl, HU.out, K1.out.bel⟩
/-- A variable that holds a tree of the call's own. -/
def TB {α : Type} (w : World) (nt : TypeId) (E : Enc α) (r0 : Addr) (base : Nat) (T : MT α) : Prop := ∃ p F, w.cell? r0 = some (.pointer p) ∧ w.frozen? r0 = false ∧ MR w nt E T p F ∧ r0.block ∉ F ∧ ∀ x ∈ F, base ≤ x
theorem TB.kp {α : Type} {w w' : World} {nt : TypeId} {E : Enc α} {r0 : Addr} {base : Nat} {T : MT α} (h : TB w nt E r0 base T) (hk : Kp w w') : TB w' nt E r0 base T := by
  obtain ⟨p, F, h1, h2, h3, h4, h5⟩ := h
  exact ⟨p, F, hk.cell h1, (hk.frozen (World.block_lt_of_cell? _ _ h1)).trans h2, h3.kp hk, h4, h5⟩
theorem TPost.tb {α : Type} {nt : TypeId} {E : Enc α} {r0 : Addr} {T T' : MT α} {F : List Nat} {w w0 w' : World} {e : Ending} {p : Option Addr} (h : TPost nt E r0 T' F w e w') (hc : w.cell? r0 = some (.pointer p)) (hr : r0.block ∉ F) (hF : ∀ x ∈ F, w0.heap.size ≤ x) (hk : Kp w0 w) (hr0 : w0.heap.size ≤ r0.block) :
    e = .returned (.tuple #[]) ∧ TB w' nt E r0 w0.heap.size T' ∧ Kp w0 w' ∧ Kf (fun i => i = r0.block ∨ i ∈ F) w w' := by
  obtain ⟨p', F', rfl, h1, h2, h3, h4, h5⟩ := h
  have hrl := World.block_lt_of_cell? _ _ hc
  have hz := hk.size
  refine ⟨rfl, ⟨p', F', h1, h4, h2, fun hx => ?_, fun x hx => ?_⟩, h5.kp hk fun i hi => ?_, h5⟩
  · rcases h3 _ hx with h | h
    · exact hr h
    · omega
  · rcases h3 x hx with h | h
    · exact hF x h
    · omega
  · rcases hi with rfl | hi
    · exact hr0
    · exact hF i hi
theorem ins_size : ∀ (T : MT IP) (p : IP), (ins T p).size ≤ T.size + 1
  | .nil, _ => by simp [ins, MT.size]
  | .node a l r, p => by
    have h1 := ins_size l p
    have h2 := ins_size r p
    unfold ins
    split
    · simp only [MT.size]; omega
    · split
      · simp only [MT.size]; omega
      · omega
theorem delMin_size : ∀ (T : MT IP), (delMin T).size ≤ T.size
  | .nil => by simp [delMin]
  | .node _ .nil r => by simp only [delMin, MT.size]; omega
  | .node a (.node b x y) r => by
    have := delMin_size (.node b x y)
    simp only [delMin, MT.size] at this ⊢; omega
theorem delTop_size (l r : MT IP) : (delTop l r).size ≤ l.size + 1 + r.size := by
  cases l with
  | nil => simp only [delTop, MT.size]; omega
  | node a x y =>
    cases r with
    | nil => simp only [delTop, MT.size]; omega
    | node b u v =>
      have := delMin_size (.node b u v)
      simp only [delTop_nn, MT.size] at this ⊢; omega
theorem del_size : ∀ (T : MT IP) (k : Int), (del T k).size ≤ T.size
  | .nil, _ => by simp [del]
  | .node a l r, k => by
    have h1 := del_size l k
    have h2 := del_size r k
    have h3 := delTop_size l r
    unfold del
    split
    · simp only [MT.size]; omega
    · split
      · simp only [MT.size]; omega
      · simp only [MT.size]; omega

def insK (T : MT IP) (k : Int) : MT IP := ins T (k, 0)
def ofT (l : List Int) : MT IP := l.foldl insK .nil
theorem ofT_snoc (l : List Int) (k : Nat) (h : k < l.length) : ofT (l.take (k + 1)) = ins (ofT (l.take k)) (l[k], 0) := by
  rw [List.take_succ_eq_append_getElem h, ofT, List.foldl_append]; rfl
theorem ofT_size (l : List Int) (k : Nat) (h : k ≤ l.length) : (ofT (l.take k)).size ≤ k := by
  induction k with
  | zero => simp [ofT, MT.size]
  | succ k ih => rw [ofT_snoc l k (by omega)]; have := ins_size (ofT (l.take k)) (l[k], 0); have := ih (by omega); omega
def growOf (l : List Int) : List IP × Int := if rightG l ≠ 0 then ([], rightG l) else ((ofT l).spotsBy Prod.fst 0, 0)
def GoRel (l : List Int) (w0 : World) (r0 : Addr) (iv : Value) (wr : World) : Prop := ∃ k : Nat, k ≤ l.length ∧ iv = .int .i64 k ∧ TB wr 92 ePair r0 w0.heap.size (ofT (l.take k)) ∧ Kp w0 wr
theorem rightG_len (l : List Int) (h : rightG l = 0) : l.length ≤ 200 := by
  unfold rightG at h
  split at h
  · omega
  · omega
set_option maxRecDepth 100000 in
set_option maxHeartbeats 4000000 in
theorem growOf_any (l : List Int) (v : Value) (w : World) (hr : RD w eInt v l) : Calls Try.prog 9 #[v] w (Ret2 ePair (growOf l) w) := by
  obtain ⟨A, c, rfl, hc, hm⟩ := hr.shape
  have HR := hide hr
  have HG := hide (fun W v h => growRight_any l v W h)
  clear hr
  by_cases h0 : rightG l = 0
  · have hlen := rightG_len l h0
    have H1 : Hid (growOf l = ((ofT l).spotsBy Prod.fst 0, 0)) := hide (by rw [growOf, if_neg (by simp [h0])])
    rw [h0] at HG
    clear h0
    go_enter Try.func9, Try.ntmps9
    go_wp2_with fail
    with_reducible refine (HG.out _ _ HR.out).mono ?_
    rintro e w1 ⟨rfl, hb1⟩
    have k1 : Kp w w1 := hb1
    have HK1 := hide k1
    have hz := k1.size
    clear hb1 k1
    go_wp2
    go_loopw [15] (GoRel l w ⟨w1.heap.size, 0, none⟩) (fun i _ => l.length - (intOf i).toNat)
    case atStart => exact ⟨0, by omega, rfl, ⟨none, [], by simp [go_sem], by simp [go_sem], MR.nil, by simp, by simp⟩, HK1.out.alloc⟩
    case round =>
      obtain ⟨k, hk, rfl, htb, hkp⟩ := hrel
      have hsz := ofT_size l k hk
      by_cases hlt : k < l.length
      · obtain ⟨b, o, rfl, _, c0⟩ := (HR.out.kp hkp).int hlt
        obtain ⟨p, F, q1, q2, q3, q4, q5⟩ := htb
        have HP := hide (growPut_any (ofT (l.take k)) ⟨w1.heap.size, 0, none⟩ p F l[k] 0 wr q1 q2 q3 q4)
        have HS := hide (ofT_snoc l k hlt)
        have HQ1 := hide q1
        have HKP := hide hkp
        clear q2 q3 q1 hkp
        go_wp2_with fail
        with_reducible refine HP.out.mono ?_
        intro e w2 hpost
        obtain ⟨rfl, htb2, hk2, _⟩ := hpost.tb (T := ofT (l.take k)) HQ1.out q4 q5 HKP.out hz
        rw [← HS.out] at htb2
        have HT2 := hide htb2
        have HK2 := hide hk2
        clear hpost htb2 hk2
        go_wp2
        go_roundw
        case rel => exact ⟨k + 1, by omega, by go_num, HT2.out, HK2.out⟩
        case measure => simp [intOf]; omega
      · have hkl : k = l.length := by omega
        subst hkl
        have hS : Hid (l.take l.length = l) := hide (by simp)
        obtain ⟨p, F, q1, q2, q3, q4, q5⟩ := htb
        have HT := hide (growTold_any (ofT (l.take l.length)) p F wr q3 (by omega))
        have HKP := hide hkp
        clear q2 q3 hkp
        go_wp2_with fail
        with_reducible refine HT.out.mono ?_
        rintro e w2 ⟨v2, rfl, hr2, hb2⟩
        have HR2 := hide hr2
        have K2 := hide (HKP.out.trans hb2)
        clear hr2 hb2
        go_wp2
        go_ret2
        exact ⟨_, by rw [H1.out]; rfl, by rw [H1.out]; have h := HR2.out; rwa [hS.out] at h, K2.out.bel⟩
  · have H1 : Hid (growOf l = ([], rightG l)) := hide (by rw [growOf, if_pos h0])
    obtain ⟨r, hr⟩ : ∃ r, r = rightG l := ⟨_, rfl⟩
    rw [← hr] at HG H1 h0
    have hne : (r != 0) = true := by simp [h0]
    clear h0 hr
    go_enter Try.func9, Try.ntmps9
    go_wp2_with fail
    with_reducible refine (HG.out _ _ HR.out).mono ?_
    rintro e w1 ⟨rfl, hb1⟩
    go_wp2
    go_ret2
    exact ⟨_, by rw [H1.out]; rfl, by rw [H1.out]; exact RD.nil, hb1⟩
def growS (T : MT IP) (o : O3) (a : An) : MT IP := if a.err ≠ 0 then T else if o.1 = 1 then ins T (o.2.1, o.2.2) else if o.1 = 3 then del T o.2.1 else T
def growT (z : List (O3 × An)) : MT IP := z.foldl (fun T p => growS T p.1 p.2) .nil
theorem growT_snoc (z : List (O3 × An)) (k : Nat) (h : k < z.length) : growT (z.take (k + 1)) = growS (growT (z.take k)) z[k].1 z[k].2 := by
  rw [List.take_succ_eq_append_getElem h, growT, List.foldl_append]; rfl
theorem growS_size (T : MT IP) (o : O3) (a : An) : (growS T o a).size ≤ T.size + 1 := by
  unfold growS
  split
  · omega
  · split
    · exact ins_size _ _
    · split
      · have := del_size T o.2.1; omega
      · omega
theorem growT_size (z : List (O3 × An)) (k : Nat) (h : k ≤ z.length) : (growT (z.take k)).size ≤ k := by
  induction k with
  | zero => simp [growT, MT.size]
  | succ k ih => rw [growT_snoc z k (by omega)]; have := growS_size (growT (z.take k)) z[k].1 z[k].2; have := ih (by omega); omega
def opsZ (ops : List O3) : List (O3 × An) := ops.zip (runL ops).2
def growRun (ops : List O3) : List IP × List An × Int := if ops.length > 300 then ([], [], 2) else ((growT (opsZ ops)).spotsBy Prod.fst 0, (runL ops).2, 0)
def GuRel (z : List (O3 × An)) (w0 : World) (r0 : Addr) (iv : Value) (wr : World) : Prop := ∃ k : Nat, k ≤ z.length ∧ iv = .int .i64 k ∧ TB wr 92 ePair r0 w0.heap.size (growT (z.take k)) ∧ Kp w0 wr
set_option maxRecDepth 100000 in
set_option maxHeartbeats 8000000 in
theorem growRun_any (ops : List O3) (v : Value) (w : World) (hr : RD w eOp v ops) : Calls Try.prog 12 #[v] w (RunPost (growRun ops) w) := by
  obtain ⟨A, c, rfl, hc, hm⟩ := hr.shape
  have HR := hide hr
  have HRU := hide (fun W v h => run_any ops v W h)
  clear hr
  by_cases hlen : ops.length > 300
  · have h1 : runOf ops = ([], [], 2) := by rw [runOf, if_pos hlen]
    have H1 : Hid (growRun ops = ([], [], 2)) := hide (by rw [growRun, if_pos hlen])
    rw [h1] at HRU
    clear h1
    go_enter Try.func12, Try.ntmps12
    go_wp2_with fail
    with_reducible refine (HRU.out _ _ HR.out).mono ?_
    rintro e w1 ⟨v1, u1, rfl, hr1, hu1, hb1⟩
    obtain ⟨A1, c1, rfl, _, _⟩ := hr1.shape
    obtain ⟨A2, c2, rfl, _, _⟩ := hu1.shape
    clear hr1 hu1
    go_wp2
    go_ret3
    exact ⟨_, _, by rw [H1.out]; rfl, by rw [H1.out]; exact RD.nil, by rw [H1.out]; exact RD.nil, hb1⟩
  · have h1 : runOf ops = ((runL ops).1, (runL ops).2, 0) := by rw [runOf, if_neg hlen]
    have H1 : Hid (growRun ops = ((growT (opsZ ops)).spotsBy Prod.fst 0, (runL ops).2, 0)) := hide (by rw [growRun, if_neg hlen])
    have hal := runL_len ops ops.length (Nat.le_refl _)
    rw [List.take_length] at hal
    have hzl : (opsZ ops).length = ops.length := by rw [opsZ, List.length_zip, hal]; omega
    have hzk : ∀ k (h : k < (opsZ ops).length) (h1 : k < ops.length) (h2 : k < (runL ops).2.length), (opsZ ops)[k] = (ops[k], (runL ops).2[k]) := fun k h h1 h2 => by simp [opsZ]
    obtain ⟨z, hz⟩ : ∃ z, z = opsZ ops := ⟨_, rfl⟩
    rw [← hz] at H1 hzl
    have HZK : Hid (∀ k (h : k < z.length) (h1 : k < ops.length) (h2 : k < (runL ops).2.length), z[k] = (ops[k], (runL ops).2[k])) := hide (by rw [hz]; exact hzk)
    rw [h1] at HRU
    obtain ⟨an, han⟩ : ∃ a, a = (runL ops).2 := ⟨_, rfl⟩
    rw [← han] at HRU H1 HZK hal
    have HZL := hide hzl
    have HAL := hide hal
    clear h1 hz hzk hzl hal han
    go_enter Try.func12, Try.ntmps12
    go_wp2_with fail
    with_reducible refine (HRU.out _ _ HR.out).mono ?_
    rintro e w1 ⟨v1, u1, rfl, hr1, hu1, hb1⟩
    obtain ⟨A1, c1, rfl, _, _⟩ := hr1.shape
    obtain ⟨A2, c2, rfl, hc2, hm2⟩ := hu1.shape
    have k1 : Kp w w1 := hb1
    have HK1 := hide k1
    have hz1 := k1.size
    have HU := hide hu1
    have hcc : an.length ≤ 9223372036854775807 := by have h := hc2; simp only at h; omega
    clear hr1 hu1 hb1 k1
    go_wp2
    go_loopw [22] (GuRel z w1 ⟨w1.heap.size, 0, none⟩) (fun i _ => z.length - (intOf i).toNat)
    case atStart => exact ⟨0, by omega, rfl, ⟨none, [], by simp [go_sem], by simp [go_sem], MR.nil, by simp, by simp⟩, (Kp.refl w1).alloc⟩
    case round =>
      obtain ⟨k, hk, rfl, htb, hkp⟩ := hrel
      have hsz := growT_size z k hk
      by_cases hlt : k < z.length
      · have hko : k < ops.length := by rw [← HZL.out]; exact hlt
        have hka : k < an.length := by rw [HAL.out]; exact hko
        have dk : decide (k < ops.length) = true := by simp [hko]
        have bka : (k : Int) < (an.length : Int) := by omega
        have hkw := HK1.out.trans hkp
        obtain ⟨b, o, rfl, _, x0, x1, x2⟩ := (HR.out.kp hkw).op hko
        obtain ⟨b2, o2, rfl, _, y0, _, _, _⟩ := (HU.out.kp hkp).ans hka
        have y0' := ((Kp.refl wr).alloc (o := .cells #[.int .i64 ops[k].1, .int .i64 ops[k].2.1, .int .i64 ops[k].2.2] 32)).cell y0
        have hst := growT_snoc z k hlt
        rw [HZK.out k hlt hko hka] at hst
        simp only at hst
        have HTB := hide htb
        by_cases he : an[k].err = 0
        · have d1 : (an[k].err != 0) = false := by simp [he]
          rw [growS, if_neg (by simpa using he)] at hst
          by_cases h1 : ops[k].1 = 1
          · rw [if_pos h1] at hst
            have d2 : (ops[k].1 == 1) = true := by simp [h1]
            have HS := hide hst
            obtain ⟨p, F, q1, q2, q3, q4, q5⟩ := (htb.kp ((Kp.refl wr).alloc (o := .cells #[.int .i64 ops[k].1, .int .i64 ops[k].2.1, .int .i64 ops[k].2.2] 32)))
            have HP := hide (growPut_any (growT (z.take k)) ⟨w1.heap.size, 0, none⟩ p F ops[k].2.1 ops[k].2.2 _ q1 q2 q3 q4)
            have HQ1 := hide q1
            have HKP := hide hkp
            clear q2 q3 q1 hkp htb hst he h1
            go_wp2_with fail
            with_reducible refine HP.out.mono ?_
            intro e w2 hpost
            obtain ⟨rfl, htb2, hk2, _⟩ := hpost.tb (T := growT (z.take k)) HQ1.out q4 q5 HKP.out.alloc (Nat.le_refl _)
            rw [← HS.out] at htb2
            have HT2 := hide htb2
            have HK2 := hide hk2
            clear hpost htb2 hk2
            go_wp2
            go_roundw
            case rel => exact ⟨k + 1, by omega, by go_num, HT2.out, HK2.out⟩
            case measure => simp [intOf]; omega
          · rw [if_neg h1] at hst
            have d2 : (ops[k].1 == 1) = false := by simp [h1]
            by_cases h3 : ops[k].1 = 3
            · rw [if_pos h3] at hst
              have d3 : (ops[k].1 == 3) = true := by simp [h3]
              have HS := hide hst
              obtain ⟨p, F, q1, q2, q3, q4, q5⟩ := (htb.kp ((Kp.refl wr).alloc (o := .cells #[.int .i64 ops[k].1, .int .i64 ops[k].2.1, .int .i64 ops[k].2.2] 32)))
              have HP := hide (growCut_any (growT (z.take k)) ⟨w1.heap.size, 0, none⟩ p F ops[k].2.1 _ q1 q2 q3 q4)
              have HQ1 := hide q1
              have HKP := hide hkp
              clear q2 q3 q1 hkp htb hst he h1 h3
              go_wp2_with fail
              with_reducible refine HP.out.mono ?_
              intro e w2 hpost
              obtain ⟨rfl, htb2, hk2, _⟩ := hpost.tb (T := growT (z.take k)) HQ1.out q4 q5 HKP.out.alloc (Nat.le_refl _)
              rw [← HS.out] at htb2
              have HT2 := hide htb2
              have HK2 := hide hk2
              clear hpost htb2 hk2
              go_wp2
              go_roundw
              case rel => exact ⟨k + 1, by omega, by go_num, HT2.out, HK2.out⟩
              case measure => simp [intOf]; omega
            · rw [if_neg h3] at hst
              have d3 : (ops[k].1 == 3) = false := by simp [h3]
              have HS := hide hst
              clear hst he h1 h3
              go_wp2
              go_roundw
              case rel => exact ⟨k + 1, by omega, by go_num, by rw [HS.out]; exact HTB.out.kp (Kp.refl wr).alloc, hkp.alloc⟩
              case measure => simp [intOf]; omega
        · have d1 : (an[k].err != 0) = true := by simp [he]
          rw [growS, if_pos (by simpa using he)] at hst
          have HS := hide hst
          clear hst he
          go_wp2
          go_roundw
          case rel => exact ⟨k + 1, by omega, by go_num, by rw [HS.out]; exact HTB.out.kp (Kp.refl wr).alloc, hkp.alloc⟩
          case measure => simp [intOf]; omega
      · have hkl : k = z.length := by omega
        have dk : decide (k < ops.length) = false := by have := HZL.out; simp; omega
        have hS : Hid (z.take k = z) := hide (List.take_of_length_le (by omega))
        obtain ⟨p, F, q1, q2, q3, q4, q5⟩ := htb
        have hzz := HZL.out
        have HT := hide (growTold_any (growT (z.take k)) p F wr q3 (by omega))
        have HKP := hide hkp
        have HKW := hide (HK1.out.trans hkp)
        clear q2 q3 hkp hzz hkl
        go_wp2_with fail
        with_reducible refine HT.out.mono ?_
        rintro e w2 ⟨v2, rfl, hr2, hb2⟩
        have HR2 := hide hr2
        have HB2 := hide (Kp.of hb2)
        clear hr2 hb2
        go_wp2
        go_ret3
        exact ⟨_, _, by rw [H1.out]; rfl, by rw [H1.out]; have h := HR2.out; rwa [hS.out] at h, by rw [H1.out]; exact HU.out.kp (HKP.out.trans HB2.out), (HKW.out.trans HB2.out).bel⟩
end Go.Proofs.Ytnallpdmdhbidaa
