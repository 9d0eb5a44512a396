/-
  grow.told, grow.Of, grow.Run: what they answer. Conditions: the lists read as they are named (RD).
  Trees of places: plain words, no program. Conditions: none.
-/
import Derived.Test.YthbapflabjogkaaHeapOneM11
import Derived.Test.YthbapflabjogkaaHeapOneM8
import Derived.Test.YthbapflabjogkaaHeapOneM12
import Derived.Test.YthbapflabjogkaaHeapOneM3

namespace Go.Proofs.Ythbapflabjogkaa
open Go.ChangeShapes Go.WideShapes Go.ChangeAt Go.RowKit
set_option linter.unusedVariables false
set_option linter.unusedSimpArgs false

set_option maxRecDepth 100000 in
set_option maxHeartbeats 2000000 in
theorem growTold_any (t : MT IP) (p : Option Addr) (F : List Nat) (w : World) (hm : MR w 77 ePair t p F) (hs : t.size ≤ 1000) : Calls Try.prog 36 #[.pointer p] w (RetRD ePair (t.spotsBy Prod.fst 0) w) := by
  have HO := hide (OB.new (B := w.heap.size) (st := 24) (e := 51) (E := ePair) w (Nat.le_refl _))
  have HC := hide (grow_spots_any w.heap.size w.heap.size (Nat.le_refl _) t p F 0 [] _ (hm.kp (Kp.refl w).alloc) (by omega) (by omega) (by simp; omega) HO.out (by simp))
  clear hm
  go_enter Try.func36, Try.ntmps36
  go_wp2_with fail
  with_reducible refine HC.out.mono ?_
  rintro e w1 ⟨rfl, ho1, hk1⟩
  have k1 := hk1.none (Kp.refl w).alloc (Nat.le_refl _) (by simp [go_sem])
  rw [List.nil_append] at ho1
  obtain ⟨u, hb, hu, hn⟩ := ho1
  have g0 := hb.cell 0
  obtain ⟨A3, N3, c3, rfl⟩ := hu.rd.slice
  have HU := hide hu.rd
  have K1 := hide k1
  clear hk1 hb hu hn k1
  go_wp2
  go_ret
  exact ⟨_, rfl, HU.out, K1.out.bel⟩
/-- A variable that holds a tree of the call's own. -/
def TB {α : Type} (w : World) (nt : TypeId) (E : Enc α) (r0 : Addr) (base : Nat) (T : MT α) : Prop := ∃ p F, w.cell? r0 = some (.pointer p) ∧ w.frozen? r0 = false ∧ MR w nt E T p F ∧ r0.block ∉ F ∧ ∀ x ∈ F, base ≤ x
theorem TB.kp {α : Type} {w w' : World} {nt : TypeId} {E : Enc α} {r0 : Addr} {base : Nat} {T : MT α} (h : TB w nt E r0 base T) (hk : Kp w w') : TB w' nt E r0 base T := by
  obtain ⟨p, F, h1, h2, h3, h4, h5⟩ := h
  exact ⟨p, F, hk.cell h1, (hk.frozen (World.block_lt_of_cell? _ _ h1)).trans h2, h3.kp hk, h4, h5⟩
theorem TPost.tb {α : Type} {nt : TypeId} {E : Enc α} {r0 : Addr} {T T' : MT α} {F : List Nat} {w w0 w' : World} {e : Ending} {p : Option Addr} (h : TPost nt E r0 T' F w e w') (hc : w.cell? r0 = some (.pointer p)) (hr : r0.block ∉ F) (hF : ∀ x ∈ F, w0.heap.size ≤ x) (hk : Kp w0 w) (hr0 : w0.heap.size ≤ r0.block) :
    e = .returned (.tuple #[]) ∧ TB w' nt E r0 w0.heap.size T' ∧ Kp w0 w' ∧ Kf (fun i => i = r0.block ∨ i ∈ F) w w' := by
  obtain ⟨p', F', rfl, h1, h2, h3, h4, h5⟩ := h
  have hrl := World.block_lt_of_cell? _ _ hc
  have hz := hk.size
  refine ⟨rfl, ⟨p', F', h1, h4, h2, fun hx => ?_, fun x hx => ?_⟩, h5.kp hk fun i hi => ?_, h5⟩
  · rcases h3 _ hx with h | h
    · exact hr h
    · omega
  · rcases h3 x hx with h | h
    · exact hF x h
    · omega
  · rcases hi with rfl | hi
    · exact hr0
    · exact hF i hi
theorem ins_size : ∀ (T : MT IP) (p : IP), (ins T p).size ≤ T.size + 1
  | .nil, _ => by simp [ins, MT.size]
  | .node a l r, p => by
    have h1 := ins_size l p
    have h2 := ins_size r p
    unfold ins
    split
    · simp only [MT.size]; omega
    · split
      · simp only [MT.size]; omega
      · omega
theorem delMin_size : ∀ (T : MT IP), (delMin T).size ≤ T.size
  | .nil => by simp [delMin]
  | .node _ .nil r => by simp only [delMin, MT.size]; omega
  | .node a (.node b x y) r => by
    have := delMin_size (.node b x y)
    simp only [delMin, MT.size] at this ⊢; omega
theorem delTop_size (l r : MT IP) : (delTop l r).size ≤ l.size + 1 + r.size := by
  cases l with
  | nil => simp only [delTop, MT.size]; omega
  | node a x y =>
    cases r with
    | nil => simp only [delTop, MT.size]; omega
    | node b u v =>
      have := delMin_size (.node b u v)
      simp only [delTop_nn, MT.size] at this ⊢; omega
theorem del_size : ∀ (T : MT IP) (k : Int), (del T k).size ≤ T.size
  | .nil, _ => by simp [del]
  | .node a l r, k => by
    have h1 := del_size l k
    have h2 := del_size r k
    have h3 := delTop_size l r
    unfold del
    split
    · simp only [MT.size]; omega
    · split
      · simp only [MT.size]; omega
      · simp only [MT.size]; omega

def insK (T : MT IP) (k : Int) : MT IP := ins T (k, 0)
def ofT (l : List Int) : MT IP := l.foldl insK .nil
theorem ofT_snoc (l : List Int) (k : Nat) (h : k < l.length) : ofT (l.take (k + 1)) = ins (ofT (l.take k)) (l[k], 0) := by
  rw [List.take_succ_eq_append_getElem h, ofT, List.foldl_append]; rfl
theorem ofT_size (l : List Int) (k : Nat) (h : k ≤ l.length) : (ofT (l.take k)).size ≤ k := by
  induction k with
  | zero => simp [ofT, MT.size]
  | succ k ih => rw [ofT_snoc l k (by omega)]; have := ins_size (ofT (l.take k)) (l[k], 0); have := ih (by omega); omega
def growOf (l : List Int) : List IP × Int := if rightG l ≠ 0 then ([], rightG l) else ((ofT l).spotsBy Prod.fst 0, 0)
def GoRel (l : List Int) (w0 : World) (r0 : Addr) (iv : Value) (wr : World) : Prop := ∃ k : Nat, k ≤ l.length ∧ iv = .int .i64 k ∧ TB wr 77 ePair r0 w0.heap.size (ofT (l.take k)) ∧ Kp w0 wr
theorem rightG_len (l : List Int) (h : rightG l = 0) : l.length ≤ 200 := by
  unfold rightG at h
  split at h
  · omega
  · omega
set_option maxRecDepth 100000 in
set_option maxHeartbeats 4000000 in
theorem growOf_any (l : List Int) (v : Value) (w : World) (hr : RD w eInt v l) : Calls Try.prog 22 #[v] w (Ret2 ePair (growOf l) w) := by
  obtain ⟨A, c, rfl, hc, hm⟩ := hr.shape
  have HR := hide hr
  have HG := hide (fun W v h => growRight_any l v W h)
  clear hr
  by_cases h0 : rightG l = 0
  · have hlen := rightG_len l h0
    have H1 : Hid (growOf l = ((ofT l).spotsBy Prod.fst 0, 0)) := hide (by rw [growOf, if_neg (by simp [h0])])
    rw [h0] at HG
    clear h0
    go_enter Try.func22, Try.ntmps22
    go_wp2_with fail
    with_reducible refine (HG.out _ _ HR.out).mono ?_
    rintro e w1 ⟨rfl, hb1⟩
    have k1 : Kp w w1 := hb1
    have HK1 := hide k1
    have hz := k1.size
    clear hb1 k1
    go_wp2
    go_loopw [15] (GoRel l w ⟨w1.heap.size, 0, none⟩) (fun i _ => l.length - (intOf i).toNat)
    case atStart => exact ⟨0, by omega, rfl, ⟨none, [], by simp [go_sem], by simp [go_sem], MR.nil, by simp, by simp⟩, HK1.out.alloc⟩
    case round =>
      obtain ⟨k, hk, rfl, htb, hkp⟩ := hrel
      have hsz := ofT_size l k hk
      by_cases hlt : k < l.length
      · obtain ⟨b, o, rfl, _, c0⟩ := (HR.out.kp hkp).int hlt
        obtain ⟨p, F, q1, q2, q3, q4, q5⟩ := htb
        have HP := hide (growPut_any (ofT (l.take k)) ⟨w1.heap.size, 0, none⟩ p F l[k] 0 wr q1 q2 q3 q4)
        have HS := hide (ofT_snoc l k hlt)
        have HQ1 := hide q1
        have HKP := hide hkp
        clear q2 q3 q1 hkp
        go_wp2_with fail
        with_reducible refine HP.out.mono ?_
        intro e w2 hpost
        obtain ⟨rfl, htb2, hk2, _⟩ := hpost.tb (T := ofT (l.take k)) HQ1.out q4 q5 HKP.out hz
        rw [← HS.out] at htb2
        have HT2 := hide htb2
        have HK2 := hide hk2
        clear hpost htb2 hk2
        go_wp2
        go_roundw
        case rel => exact ⟨k + 1, by omega, by go_num, HT2.out, HK2.out⟩
        case measure => simp [intOf]; omega
      · have hkl : k = l.length := by omega
        subst hkl
        have hS : Hid (l.take l.length = l) := hide (by simp)
        obtain ⟨p, F, q1, q2, q3, q4, q5⟩ := htb
        have HT := hide (growTold_any (ofT (l.take l.length)) p F wr q3 (by omega))
        have HKP := hide hkp
        clear q2 q3 hkp
        go_wp2_with fail
        with_reducible refine HT.out.mono ?_
        rintro e w2 ⟨v2, rfl, hr2, hb2⟩
        have HR2 := hide hr2
        have K2 := hide (HKP.out.trans hb2)
        clear hr2 hb2
        go_wp2
        go_ret2
        exact ⟨_, by rw [H1.out]; rfl, by rw [H1.out]; have h := HR2.out; rwa [hS.out] at h, K2.out.bel⟩
  · have H1 : Hid (growOf l = ([], rightG l)) := hide (by rw [growOf, if_pos h0])
    obtain ⟨r, hr⟩ : ∃ r, r = rightG l := ⟨_, rfl⟩
    rw [← hr] at HG H1 h0
    have hne : (r != 0) = true := by simp [h0]
    clear h0 hr
    go_enter Try.func22, Try.ntmps22
    go_wp2_with fail
    with_reducible refine (HG.out _ _ HR.out).mono ?_
    rintro e w1 ⟨rfl, hb1⟩
    go_wp2
    go_ret2
    exact ⟨_, by rw [H1.out]; rfl, by rw [H1.out]; exact RD.nil, hb1⟩
def growS (T : MT IP) (o : O3) (a : An) : MT IP := if a.err ≠ 0 then T else if o.1 = 1 then ins T (o.2.1, o.2.2) else if o.1 = 3 then del T o.2.1 else T
def growT (z : List (O3 × An)) : MT IP := z.foldl (fun T p => growS T p.1 p.2) .nil
theorem growT_snoc (z : List (O3 × An)) (k : Nat) (h : k < z.length) : growT (z.take (k + 1)) = growS (growT (z.take k)) z[k].1 z[k].2 := by
  rw [List.take_succ_eq_append_getElem h, growT, List.foldl_append]; rfl
theorem growS_size (T : MT IP) (o : O3) (a : An) : (growS T o a).size ≤ T.size + 1 := by
  unfold growS
  split
  · omega
  · split
    · exact ins_size _ _
    · split
      · have := del_size T o.2.1; omega
      · omega
theorem growT_size (z : List (O3 × An)) (k : Nat) (h : k ≤ z.length) : (growT (z.take k)).size ≤ k := by
  induction k with
  | zero => simp [growT, MT.size]
  | succ k ih => rw [growT_snoc z k (by omega)]; have := growS_size (growT (z.take k)) z[k].1 z[k].2; have := ih (by omega); omega
def opsZ (ops : List O3) : List (O3 × An) := ops.zip (runL ops).2
def growRun (ops : List O3) : List IP × List An × Int := if ops.length > 300 then ([], [], 2) else ((growT (opsZ ops)).spotsBy Prod.fst 0, (runL ops).2, 0)
def GuRel (z : List (O3 × An)) (w0 : World) (r0 : Addr) (iv : Value) (wr : World) : Prop := ∃ k : Nat, k ≤ z.length ∧ iv = .int .i64 k ∧ TB wr 77 ePair r0 w0.heap.size (growT (z.take k)) ∧ Kp w0 wr
end Go.Proofs.Ythbapflabjogkaa
namespace Go.Proofs.Ythbapflabjogkaa
open Go.ChangeShapes Go.WideShapes Go.ChangeAt Go.RowKit
set_option linter.unusedVariables false
set_option linter.unusedSimpArgs false

/-- The tree of places. -/
inductive PT where
  | nil
  | node (p : Nat) (l r : PT)
def PT.size : PT → Nat
  | .nil => 0
  | .node _ l r => l.size + 1 + r.size
/-- In order the places are off, off + 1, .. -/
def PT.At : PT → Nat → Prop
  | .nil, _ => True
  | .node p l r, off => p = off + l.size ∧ l.At off ∧ r.At (p + 1)
def PT.pars : PT → Int → List Int
  | .nil, _ => []
  | .node p l r, up => l.pars p ++ [up] ++ r.pars p
def PT.deps : PT → Int → List Int
  | .nil, _ => []
  | .node p l r, d => l.deps (d + 1) ++ [d] ++ r.deps (d + 1)
theorem PT.pars_len : ∀ (t : PT) (up : Int), (t.pars up).length = t.size
  | .nil, _ => rfl
  | .node p l r, up => by simp [pars, size, pars_len l, pars_len r]; omega
theorem PT.deps_len : ∀ (t : PT) (d : Int), (t.deps d).length = t.size
  | .nil, _ => rfl
  | .node p l r, d => by simp [deps, size, deps_len l, deps_len r]; omega
end Go.Proofs.Ythbapflabjogkaa
