/-
  The form's own reach: a slice of ops that is handed in takes no more room than the platform has. Conditions: none.
  By other ops to the same keys: all keys cut, then put anew from the last on. No program. Conditions: none.
  slices.Clone at ints; the row of the ops. Conditions: the list reads as l (RD).
  hedgref.Reversed, slices.Clone at ops: what they answer. Conditions: the lists read as they are named (RD).
  hedgkeep.SkipOne: the walk: it answers true. Conditions: the lists of ops read as they are named (RD); the second takes no more room than the platform has; the table of math/bits holds what it is laid with (DTb).
  hedgkeep.SkipOne: THE STATEMENT: for every input it answers true. Conditions: the table of math/bits holds what the program's text lays (tied on the card).
-/
import Derived.Test.YtfojphaemfbfnaaDoorG2
import Derived.SizedLaws
import Derived.Test.YtfojphaemfbfnaaDoorG23
import Derived.Test.YtfojphaemfbfnaaDoorG6
import Derived.Test.YtfojphaemfbfnaaDoorG25
import Derived.Deep.DeepCutAuto
import Derived.Test.YtfojphaemfbfnaaDoorCards
import Derived.Test.YtfojphaemfbfnaaDoorTie
import Derived.SevenTiedAt

namespace Go.Proofs.YtfojphaemfbfnaaDoor
open Go.ChangeShapes Go.WideShapes Go.ChangeAt Go.RowKit Go.Deep
set_option linter.unusedVariables false
set_option linter.unusedSimpArgs false

section
variable {H : Type} {enc : TypeId × Value → H} {w : World} {base : Nat} {spare : Nat → Bool} {held : Bool}
set_option maxRecDepth 100000 in
theorem bytes_op : Tryd.prog.bytesOf 56 = 24 := by kernel_rfl
set_option maxRecDepth 100000 in
theorem ops_reach {ts : List TypeId} {ds : List (DataW H)} (hsz : (DataW.weightsEach Tryd.prog ts ds).all (· ≤ reachBytes) = true) {j : Nat} (ht : ts[j]? = some 40) {d : DataW H} {p : List MemPlace} (hd : ds[j]? = some d)
    {a0 : Option Addr} {n c : Nat} (h : DataW.Trod enc Tryd.prog w base spare held 40 (.slice a0 n c) d p) : n * 24 ≤ 140737488355328 := by
  obtain ⟨fuel, hf⟩ := h
  rcases open_slice_fields Tryd.underlying40 Tryd.underlying56 (by kernel_rfl) (by kernel_rfl) hf with ⟨h1, _⟩ | ⟨a, len, cap, m, D, Pl, h1, _, _, _, _, h2, _⟩
  · simp [Value.cells] at h1
    obtain ⟨_, rfl, _⟩ := h1
    omega
  · simp [Value.cells] at h1
    obtain ⟨_, rfl, _⟩ := h1
    injection h2 with h2 _
    subst h2
    have := sized_slice hsz ht hd Tryd.underlying40
    rw [bytes_op, List.length_map, List.length_range] at this
    have hr := reachBytes_lt
    omega
end
end Go.Proofs.YtfojphaemfbfnaaDoor
namespace Go.Proofs.YtfojphaemfbfnaaDoor
open Go.ChangeShapes Go.WideShapes Go.ChangeAt Go.RowKit
set_option linter.unusedVariables false
set_option linter.unusedSimpArgs false

def cO (k : Int) : O3 := (3, k, 0)
def pOO (k : Int) : O3 := (1, k, 0)
theorem fold_fst (ops : List O3) : ∀ (l : List IP) (a b : List An), (ops.foldl runS (l, a)).1 = (ops.foldl runS (l, b)).1 := by
  induction ops with
  | nil => intro l a b; rfl
  | cons o t ih => intro l a b; exact ih _ _ _
theorem below_first {p : IP} {t : List IP} (h : Rise (p :: t)) : below (p :: t) p.1 = 0 := below_at h 0 (by simp)
theorem has_first (p : IP) (t : List IP) (h : Rise (p :: t)) : hasKey (p :: t) p.1 = true := by
  rw [hasKey_iff _ h]
  have := below_first h
  exact ⟨by rw [this]; simp, by simp only [this]; rfl⟩
theorem cut_first {p : IP} {t : List IP} (h : mapRight (p :: t) = 0) : (doA (p :: t) 3 p.1 0).1 = t := by
  have hr := rise_of h
  have hin := mapRight_in _ h p (by simp)
  rw [doA_cut _ _ h hin, cutL, if_pos (has_first p t hr), below_first hr]
  simp
theorem right_tail {p : IP} {t : List IP} (h : mapRight (p :: t) = 0) : mapRight t = 0 := by
  obtain ⟨h1, h2, h3⟩ := (mapRight_iff _).1 h
  refine (mapRight_iff _).2 ⟨by simp at h1; omega, fun i j hi hj hij => ?_, fun x hx => h3 x (by simp [hx])⟩
  have := h2 (i + 1) (j + 1) (by simp; omega) (by simp; omega) (by omega)
  simpa using this
theorem cut_all : ∀ (l : List IP) (a : List An), mapRight l = 0 → (((l.map Prod.fst).map cO).foldl runS (l, a)).1 = []
  | [], _, _ => rfl
  | p :: t, a, h => by
    rw [List.map_cons, List.map_cons, List.foldl_cons]
    have e : runS (p :: t, a) (cO p.1) = (t, a ++ [(doA (p :: t) 3 p.1 0).2]) := by
      unfold runS cO
      simp only
      rw [cut_first h]
    rw [e]
    exact cut_all t _ (right_tail h)
theorem keys_right {ks : List Int} (h : krL ks = 0) : mapRight (ks.map fun k => (k, 0)) = 0 := by
  obtain ⟨h1, h2, h3⟩ := krL_in h
  refine (mapRight_iff _).2 ⟨by simpa using h1, fun i j hi hj hij => ?_, fun x hx => ?_⟩
  · simp only [List.getElem_map]
    exact pair_lt h2 hij (by simpa using hj)
  · obtain ⟨k, hk, rfl⟩ := List.mem_map.1 hx
    exact h3 k hk
theorem put_first {k : Int} {t : List IP} (h : mapRight t = 0) (hl : t.length < 200) (hk : 0 ≤ k ∧ k ≤ 1000000) (hlt : ∀ x ∈ t, k < x.1) : (doA t 1 k 0).1 = (k, 0) :: t := by
  have hb : below t k = 0 := by
    unfold below
    rw [List.filter_eq_nil_iff.2 (fun p hp => by have := hlt p hp; simp; omega)]
    rfl
  have hh : hasKey t k = false := by
    cases e : hasKey t k with
    | false => rfl
    | true =>
      obtain ⟨hlt2, e2⟩ := (hasKey_iff t (rise_of h) k).1 e
      have := hlt _ (List.getElem_mem hlt2)
      omega
  rw [doA_put _ _ h hk, putL, hh, if_neg (by simp), if_neg (by omega), hb]
  simp
theorem krF_tail {a : Int} {t : List Int} {la : Int} (h : krF la (a :: t) = 0) : krF a t = 0 ∧ la + 1 ≤ a ∧ a ≤ 1000000 := by
  unfold krF at h
  split at h
  · next hc => exact ⟨h, hc⟩
  · omega
theorem krF_more {t : List Int} {la lb : Int} (h : krF la t = 0) (hab : lb ≤ la) : krF lb t = 0 := by
  cases t with
  | nil => rfl
  | cons a t =>
    obtain ⟨h1, h2, h3⟩ := krF_tail h
    rw [krF, if_pos ⟨by omega, h3⟩]; exact h1
theorem put_all : ∀ (ks : List Int) (a : List An), krL ks = 0 → ((ks.reverse.map pOO).foldl runS ([], a)).1 = ks.map fun k => (k, 0)
  | [], _, _ => rfl
  | k :: t, a, h => by
    obtain ⟨h1, h2, h3⟩ := krL_in h
    have ht : krL t = 0 := by
      have hF : krF (-1) (k :: t) = 0 := by
        unfold krL at h
        split at h
        · omega
        · exact h
      obtain ⟨g1, g2, g3⟩ := krF_tail hF
      rw [krL, if_neg (by simp at h1; omega)]
      exact krF_more g1 (by omega)
    have ih := put_all t a ht
    rw [List.reverse_cons, List.map_append, List.foldl_append]
    obtain ⟨S, hS⟩ : ∃ S, S = (t.reverse.map pOO).foldl runS ([], a) := ⟨_, rfl⟩
    rw [← hS] at ih ⊢
    show (doA S.1 1 k 0).1 = _
    rw [ih, put_first (keys_right ht) (by simp at h1 ⊢; omega) (h3 k (by simp)) (fun x hx => ?_)]
    · rfl
    · obtain ⟨y, hy, rfl⟩ := List.mem_map.1 hx
      exact (List.pairwise_cons.1 h2).1 y hy
/-- Whatever was ahead, its keys cut, then other keys put from the last on: just these are there. -/
theorem anew (mo : List O3) (ks : List Int) (h : krL ks = 0) : (runL (mo ++ ((runL mo).1.map Prod.fst).map cO ++ ks.reverse.map pOO)).1.map Prod.fst = ks := by
  have hr := runL_right mo mo.length (Nat.le_refl _)
  rw [List.take_length] at hr
  have e : (runL (mo ++ ((runL mo).1.map Prod.fst).map cO ++ ks.reverse.map pOO)).1 = ks.map fun k => (k, 0) := by
    unfold runL
    rw [List.foldl_append, List.foldl_append]
    obtain ⟨S, hS⟩ : ∃ S, S = runL mo := ⟨_, rfl⟩
    have hS2 : mo.foldl runS ([], []) = S := hS.symm
    rw [← hS] at hr
    rw [hS2]
    have h1 := cut_all S.1 S.2 hr
    have e2 : runL mo = S := hS.symm
    obtain ⟨T, hT⟩ : ∃ T, T = ((S.1.map Prod.fst).map cO).foldl runS S := ⟨_, rfl⟩
    have hT1 : T.1 = [] := by rw [hT]; exact h1
    show (List.foldl runS (List.foldl runS S ((S.1.map Prod.fst).map cO)) (ks.reverse.map pOO)).1 = _
    rw [← hT]
    have e3 : T = ([], T.2) := by rw [← hT1]
    rw [e3]
    exact put_all ks T.2 h
  rw [e, List.map_map]
  simp [Function.comp_def]
end Go.Proofs.YtfojphaemfbfnaaDoor
namespace Go.Proofs.YtfojphaemfbfnaaDoor
open Go.ChangeShapes Go.WideShapes Go.ChangeAt Go.RowKit
set_option linter.unusedVariables false
set_option linter.unusedSimpArgs false

theorem info_op : (Tryd.prog.info? 56).map (fun i => (i.zero, i.size, i.bytes)) = some (some (.agg #[.int .i64 0, .int .i64 0, .int .i64 0]), 3, 24) := by kernel_rfl
theorem row_op : Row Tryd.prog 40 56 eOp 24 := row_of info_op Tryd.underlying40 rfl rfl (by decide)
end Go.Proofs.YtfojphaemfbfnaaDoor
namespace Go.Proofs.YtfojphaemfbfnaaDoor
open Go.ChangeShapes Go.WideShapes Go.ChangeAt Go.RowKit
set_option linter.unusedVariables false
set_option linter.unusedSimpArgs false

set_option maxHeartbeats 400000 in
theorem cloneOps_any (l : List O3) (v : Value) (w : World) (hr : RD w eOp v l) (hn : l.length * 24 ≤ 140737488355328) : Calls Tryd.prog 24 #[v] w (RetOW 56 eOp l w) := by
  obtain ⟨A, c, rfl, hc, hm, hA, h3⟩ := id hr
  have he := fun W => Lib.run_eql_slice_nil (P := Tryd.prog) W 40 56 A l.length c 0 0 Tryd.underlying40
  have HR := hide hr
  clear hr h3
  cases A with
  | none =>
    have hc0 : c = 0 := hA rfl
    have hl : l = [] := List.eq_nil_of_length_eq_zero (by omega)
    subst hl
    subst hc0
    clear hA
    simp only [List.length_nil] at he ⊢
    go_enter Tryd.func24, Tryd.ntmps24
    go_wp2
    go_ret
    exact ⟨_, rfl, OW.nil, Below.refl _ _⟩
  | some a =>
    have HM1 : Hid ((([] : List O3).length + l.length) * 24 ≤ 140737488355328) := hide (by simp; omega)
    have HM2 : Hid (([] : List O3).length + l.length ≤ maxLen) := hide (by simp only [List.length_nil, Nat.zero_add]; exact Nat.le_trans hc hm)
    have HE : Hid (OW (w.alloc (.cells #[] 56)) w.heap.size 56 eOp (.slice (some ⟨w.heap.size, 0, none⟩) 0 0) ([] : List O3)) := hide (OW.empty (Nat.le_refl _))
    have HHI : Hi w.heap.size (.slice (some ⟨w.heap.size, 0, none⟩) 0 0) := fun k hk => by simp [Value.ownBlock] at hk; omega
    clear hA
    go_enter Tryd.func24, Tryd.ntmps24
    go_wp2_with (at_builtin; (with_reducible refine list_app (B := w.heap.size) (l := ([] : List O3)) (m := l) row_op (.slice (some ⟨w.heap.size, 0, none⟩) 0 0) ?_ (.tmp 5) (.tmp 6) ?_ ?_ ?_ ?_ HM1.out HM2.out ?_ ?_); (with_reducible rfl); (with_reducible rfl); rfl; (exact HE.out); (show RD _ _ (.slice (some a) l.length c) _; exact HR.out.alloc _); (simp); intro v3 w3 ho3 hg3 hat3)
    go_ret
    exact ⟨_, rfl, ho3, (Kp.app hg3 (Kp.refl w).alloc HHI).bel⟩
def RvRel (l : List Int) (w : World) (ov kv : Value) (wr : World) : Prop := ∃ j : Nat, j ≤ l.length ∧ kv = .int .i64 ((j : Int) - 1) ∧ OW wr w.heap.size 3 eInt ov (l.drop j).reverse ∧ Kp w wr
set_option maxRecDepth 100000 in
set_option maxHeartbeats 1000000 in
theorem reversed_any (l : List Int) (v : Value) (w : World) (hr : RD w eInt v l) (hn : l.length ≤ 1000000) : Calls Tryd.prog 25 #[v] w (RetOW 3 eInt l.reverse w) := by
  obtain ⟨A, c, rfl, hc, hm⟩ := hr.shape
  have HR := hide hr
  have s1 : IntKind.i64.wrap ((l.length : Int) - 1) = (l.length : Int) - 1 := IntWalk.i64_in _ (by omega)
  clear hr
  go_enter Tryd.func25, Tryd.ntmps25
  go_wp2
  go_loopw [3, 4] (RvRel l w) (fun _ k _ => (intOf k + 1).toNat)
  case atStart => exact ⟨l.length, Nat.le_refl _, rfl, by rw [List.drop_length]; exact OW.nil, Kp.refl _⟩
  case round =>
    obtain ⟨j, hj, rfl, ho, hkp⟩ := hrel
    have HO := hide ho
    have HHI := hide ho.hi
    have hol : (l.drop j).reverse.length ≤ 1000000 := by simp; omega
    cases j with
    | zero =>
      have e : Hid ((l.drop 0).reverse = l.reverse) := hide (by rw [List.drop_zero])
      clear ho
      go_wp2
      go_ret
      exact ⟨_, rfl, by rw [← e.out]; exact HO.out, hkp.bel⟩
    | succ k =>
      have hlt : k < l.length := by omega
      obtain ⟨b, o, rfl, _, c0⟩ := (HR.out.kp hkp).int hlt
      obtain ⟨y, hy⟩ : ∃ y, y = l[k] := ⟨_, rfl⟩
      rw [← hy] at c0
      have HN : Hid ((l.drop (k + 1)).reverse ++ [y] = (l.drop k).reverse) := hide (by rw [List.drop_eq_getElem_cons hlt, List.reverse_cons, hy])
      obtain ⟨X, hX⟩ : ∃ X, X = (l.drop (k + 1)).reverse := ⟨_, rfl⟩
      rw [← hX] at HO HN hol
      have HM1 : Hid ((X.length + [y].length) * 8 ≤ 140737488355328) := hide (by simp; omega)
      have HM2 : Hid (X.length + [y].length ≤ maxLen) := hide (by simp [maxLen]; omega)
      have e0 : ((k + 1 : Nat) : Int) - 1 = (k : Int) := by omega
      rw [e0]
      have k0 : (0 : Int) ≤ (k : Int) := by omega
      have k1 : (k : Int) < (l.length : Int) := by omega
      have s2 : IntKind.i64.wrap ((k : Int) - 1) = (k : Int) - 1 := IntWalk.i64_in _ (by omega)
      clear hy ho hX hol
      go_wp2_with (at_builtin; (with_reducible refine list_app (B := w.heap.size) (l := X) (m := [y]) row_int u3 ?_ (.tmp 12) (.tmp 17) ?_ ?_ ?_ ?_ HM1.out HM2.out ?_ ?_); (with_reducible rfl); (with_reducible rfl); rfl; (exact HO.out.alloc _); (show RD _ _ (.slice (some ⟨_, 0, none⟩) 1 1) _; (focus ((repeat (first | (with_reducible assumption) | exact RD.new1 _ rfl | (refine RD.new1e _ ?_ rfl; simp; done) | (with_reducible apply RD.alloc) | (with_reducible apply RD.drew) | (with_reducible apply RD.drewN) | ((with_reducible apply RD.belowR); (with_reducible assumption)))); done))); (have := hkp.size; simp; omega); intro v3 w3 ho3 hg3 hat3)
      go_roundw
      case rel => exact ⟨k, by omega, rfl, by rw [← HN.out]; exact ho3, Kp.app hg3 hkp.alloc HHI.out⟩
      case measure => simp [intOf] <;> omega
end Go.Proofs.YtfojphaemfbfnaaDoor
namespace Go.Proofs.YtfojphaemfbfnaaDoor
open Go.ChangeShapes Go.WideShapes Go.ChangeAt Go.RowKit
set_option linter.unusedVariables false
set_option linter.unusedSimpArgs false

theorem OW.cutTo {α : Type} {w : World} {B : Nat} {e : TypeId} {E : Enc α} {g n c k : Nat} {l : List α} (h : OW w B e E (.slice (some ⟨g, 0, none⟩) n c) l) (hk : k ≤ l.length) : OW w B e E (.slice (some ⟨g, 0, none⟩) k c) (l.take k) := by
  rcases h.2 with ⟨h1, _⟩ | ⟨g', cap, cur, hv, hb, hg, h1, h2, h3, h4⟩
  · cases h1
  · injection hv with e1 e2 e3
    injection e1 with e1
    injection e1 with e1 _
    subst e1 e3
    have hlk : (l.take k).length = k := by simp; omega
    refine ⟨flat_len E (l.take k), .inr ⟨g, c, cur, by rw [hlk], hb, hg, by rw [hlk]; omega, h2, h3, ?_⟩⟩
    have := congrArg (List.take (k * E.size)) h4
    rw [List.take_take, Nat.min_eq_left (Nat.mul_le_mul_right _ hk)] at this
    rw [hlk, this]
    have e5 : l.flatMap E.cells = (l.take k).flatMap E.cells ++ (l.drop k).flatMap E.cells := by rw [← List.flatMap_append, List.take_append_drop]
    rw [e5, List.take_append_of_le_length (by rw [flat_len, hlk]; exact Nat.le_refl _)]
    have := flat_len E (l.take k)
    rw [hlk] at this
    rw [← this, List.take_length]
def CoRel (mo : List O3) (f : Int → O3) (ks : List Int) (uv : Value) (B' : Nat) (w : World) (ov iv : Value) (wr : World) : Prop := ∃ k : Nat, k ≤ ks.length ∧ iv = .int .i64 (k : Int) ∧ OW wr w.heap.size 56 eOp ov (mo ++ (ks.take k).map f) ∧ OW wr B' 3 eInt uv ks ∧ Kp w wr
set_option maxRecDepth 100000 in
set_option maxHeartbeats 16000000 in
theorem skipOne_walk (ops more : List O3) (v u : Value) (w : World) (hr : RD w eOp v ops) (hu : RD w eOp u more) (hmore : more.length * 24 ≤ 140737488355328) (hdb : DTb w) : Calls Tryd.prog 6 #[v, u] w (Ret (.bool true) w) := by
  have h0 : 0 < w.heap.size := World.block_lt_of_cell? _ _ (hdb 0 (by omega))
  have HU := hide hu
  have HDB := hide hdb
  have HRU := hide (skRun_any ops _ w hr hdb h0)
  rw [skRun_eq] at HRU
  have HCL := hide (fun W (h : Kp w W) => cloneOps_any more u W (hu.kp h) hmore)
  clear hr hdb hu hmore
  by_cases hlen : ops.length > 300
  · rw [if_pos hlen] at HRU
    go_enter Tryd.func6, Tryd.ntmps6
    go_wp2_with fail
    with_reducible refine HRU.out.mono ?_
    rintro e w1 ⟨v1, u1, rfl, hr1, hu1, kk1⟩
    obtain ⟨A1, c1, hv1, _, _⟩ := hr1.shape
    subst hv1
    clear hr1 hu1
    go_wp2_with fail
    with_reducible refine (skipLives_any _ (HDB.out.kp kk1)).mono ?_
    rintro e w2 ⟨rfl, hb2⟩
    have kk2 : Kp w1 w2 := Kp.of hb2
    clear hb2
    go_wp2_with fail
    with_reducible refine (skipLives_any _ (HDB.out.kp (kk1.trans kk2))).mono ?_
    rintro e w3 ⟨rfl, hb3⟩
    have kk3 : Kp w2 w3 := Kp.of hb3
    clear hb3
    go_wp2
    go_ret
    exact ⟨rfl, (kk1.trans (kk2.trans kk3)).bel⟩
  · rw [if_neg hlen] at HRU
    have hkr := runL_keys ops
    obtain ⟨ks, hks⟩ : ∃ ks, ks = (runL ops).1.map Prod.fst := ⟨_, rfl⟩
    rw [← hks] at HRU hkr
    have hkl := (krL_in hkr).1
    have HKR := hide hkr
    have HRO := hide (fun W v (h : RD W eInt v ks) hd => skRows_any ks v W h hd)
    have hro : rowsOf ks = (rowsN ks 12, 0) := by rw [rowsOf, if_pos hkr]
    rw [hro] at HRO
    have hrl := rowsN_len ks 12
    obtain ⟨rr, hrr⟩ : ∃ rr, rr = rowsN ks 12 := ⟨_, rfl⟩
    rw [← hrr] at HRU HRO hrl
    have hcase : (ks = [] ∧ rr = []) ∨ (∃ T, rr = ks :: T) := by
      by_cases e : ks = []
      · exact .inl ⟨e, by rw [hrr, e, rowsN_nil]⟩
      · obtain ⟨T, _, h2⟩ := rows_sk e
        exact .inr ⟨T, by rw [hrr, h2]⟩
    have HRR := hide hrr
    have HCASE := hide hcase
    have HRL := hide hrl
    clear hks hkr hro hrr hcase hrl hlen
    go_enter Tryd.func6, Tryd.ntmps6
    go_wp2_with fail
    with_reducible refine HRU.out.mono ?_
    rintro e w1 ⟨v1, u1, rfl, hr1, hu1, kk1⟩
    obtain ⟨A1, c1, hv1, _, _⟩ := hr1.shape
    subst hv1
    have HR1 := hide hr1
    clear hr1 hu1
    go_wp2_with fail
    with_reducible refine (skipLives_any _ (HDB.out.kp kk1)).mono ?_
    rintro e w2 ⟨rfl, hb2⟩
    have kk2 : Kp w1 w2 := Kp.of hb2
    clear hb2
    go_upto_if 39 with fail
    go_cut [8] (fun s8 wx => RD w2 eInt s8 ks ∧ wx = w2)
    case first =>
      rcases HCASE.out with ⟨e1, e2⟩ | ⟨T, e2⟩
      · have hl0 : ¬ 0 < rr.length := by rw [e2]; simp
        have HE1 := hide e1
        clear e1 e2
        go_wp2_with fail
        go_meet
        exact ⟨by rw [HE1.out]; exact RD.nil, rfl⟩
      · have hl0 : 0 < rr.length := by rw [e2]; simp
        have d0 : (0 : Int) < (rr.length : Int) := by omega
        have d1 : decide (0 < rr.length) = true := decide_eq_true hl0
        obtain ⟨b, o, ux, hA, _, cx, rx⟩ := (HR1.out.kp kk2).at_ (k := 0) hl0
        have e3 : rr[0] = ks := by simp only [e2]; rfl
        rw [e3] at rx
        subst hA
        have HRX := hide rx
        rw [Nat.add_zero] at cx
        clear e2 e3 rx
        go_wp2_with fail
        go_meet
        exact ⟨HRX.out, rfl⟩
    case rest =>
      obtain ⟨hk8, rfl⟩ := hcut
      have HK8 := hide hk8
      clear hk8
      go_wp2_with fail
      with_reducible refine (HRO.out _ _ HK8.out (HDB.out.kp (kk1.trans kk2))).mono ?_
      rintro e w3 ⟨v3, rfl, hr3, kk3⟩
      have HC := hide (sameRows_any rr rr _ v3 w3 (HR1.out.kp (kk2.trans kk3)) hr3 (by have := HRL.out; omega))
      rw [decide_eq_true rfl] at HC
      clear hr3
      go_wp2_with fail
      with_reducible refine HC.out.mono ?_
      rintro e w4 ⟨rfl, hb4⟩
      have kk4 : Kp w3 w4 := Kp.of hb4
      clear hb4
      go_wp2_with fail
      with_reducible refine (HCL.out _ (kk1.trans (kk2.trans (kk3.trans kk4)))).mono ?_
      rintro e w5 ⟨v5, rfl, ho5, hb5⟩
      have kk5 : Kp w4 w5 := Kp.of hb5
      have HO5 := hide ho5
      obtain ⟨A5, c5, hv5, hc5, hm5⟩ := ho5.rd.shape
      subst hv5
      have hrow : more.length ≤ 50 ∨ ∃ g, A5 = some ⟨g, 0, none⟩ := by
        rcases ho5.2 with ⟨h1, h2⟩ | ⟨g, cap, cur, hv, _⟩
        · exact .inl (by omega)
        · injection hv with h1 h2 h3
          exact .inr ⟨g, h1⟩
      have HROW := hide hrow
      have K5 := hide (kk1.trans (kk2.trans (kk3.trans (kk4.trans kk5))))
      have K54 := hide kk5
      have K4 := hide (kk1.trans (kk2.trans (kk3.trans kk4)))
      clear ho5 hb5 hrow
      go_upto_if 60 with fail
      go_cut [11] (fun s11 wx => OW w5 w4.heap.size 56 eOp s11 (more.take 50) ∧ wx = w5)
      case first =>
        by_cases h50 : 50 < more.length
        · rcases HROW.out with h | ⟨g, rfl⟩
          · omega
          · have d1 : decide (50 < more.length) = true := decide_eq_true h50
            have d2 : (50 : Int) ≤ (c5 : Int) := by omega
            go_wp2_with fail
            go_meet
            exact ⟨HO5.out.cutTo (by omega), rfl⟩
        · have HTK : Hid (more.take 50 = more) := hide (List.take_of_length_le (by omega))
          go_wp2_with fail
          go_meet
          exact ⟨by rw [HTK.out]; exact HO5.out, rfl⟩
      case rest =>
        obtain ⟨ho6, hwc⟩ := hcut
        have hwc2 := hwc.symm
        subst hwc2
        clear hwc
        obtain ⟨mo, hmo⟩ : ∃ mo, mo = more.take 50 := ⟨_, rfl⟩
        have hmol : mo.length ≤ 50 := by rw [hmo]; simp; omega
        rw [← hmo] at ho6
        have HO6 := hide ho6
        obtain ⟨A6, c6, hv6, _, _⟩ := ho6.rd.shape
        subst hv6
        have HRU2 := hide (skRun_ows mo _ w5 ho6.rd (HDB.out.kp K5.out) (Nat.lt_of_lt_of_le h0 K5.out.size))
        rw [skRun_eq, if_neg (by omega)] at HRU2
        have hkr2 := runL_keys mo
        have HAN := hide (anew mo ks HKR.out)
        obtain ⟨n0, hn0⟩ : ∃ n0, n0 = (runL mo).1.map Prod.fst := ⟨_, rfl⟩
        rw [← hn0] at HRU2 hkr2 HAN
        have hnl := (krL_in hkr2).1
        have hcase2 : (n0 = [] ∧ rowsN n0 12 = []) ∨ (∃ T, rowsN n0 12 = n0 :: T) := by
          by_cases e : n0 = []
          · exact .inl ⟨e, by rw [e, rowsN_nil]⟩
          · obtain ⟨T, _, h2⟩ := rows_sk e
            exact .inr ⟨T, h2⟩
        obtain ⟨r2, hr2⟩ : ∃ r2, r2 = rowsN n0 12 := ⟨_, rfl⟩
        rw [← hr2] at HRU2 hcase2
        have HCASE2 := hide hcase2
        clear ho6 hmo hkr2 hn0 hcase2 hr2 HO5 HROW
        go_wp2_with fail
        with_reducible refine HRU2.out.mono ?_
        rintro e w6 ⟨v6, u6, rfl, hr6, hu6, kk6⟩
        obtain ⟨vs6, hvs6, hvl6, hin6⟩ := hr6
        obtain ⟨A7, c7, hv7, _, _⟩ := hvs6.rd.shape
        rw [hvl6] at hv7
        subst hv7
        have HVS := hide hvs6
        have HIN := hide hin6
        have HVL := hide hvl6
        have HO7 := hide (HO6.out.kp kk6)
        have hs54 : w4.heap.size ≤ w5.heap.size := kk5.size
        clear hvs6 hin6 hvl6 hu6 HO6
        go_upto_if 73 with fail
        go_cut [11] (fun s11 wx => OW wx w4.heap.size 56 eOp s11 (mo ++ n0.map cO) ∧ Kp w4 wx)
        case first =>
          rcases HCASE2.out with ⟨e1, e2⟩ | ⟨T, e2⟩
          · have hl0 : ¬ 0 < r2.length := by rw [e2]; simp
            have HE1 := hide e1
            clear e1 e2
            go_wp2_with fail
            go_meet
            exact ⟨by rw [HE1.out, List.map_nil, List.append_nil]; exact HO7.out, K54.out.trans kk6⟩
          · have hl0 : 0 < r2.length := by rw [e2]; simp
            have d0 : (0 : Int) < (r2.length : Int) := by omega
            have d1 : decide (0 < r2.length) = true := decide_eq_true hl0
            have hv0 : 0 < vs6.length := by rw [HVL.out]; exact hl0
            obtain ⟨b, o, hA, _, cx⟩ := HVS.out.rd.at_ (k := 0) hv0
            have cx0 := cx 0 (by decide)
            have rx := HIN.out 0 hv0 hl0
            have e3 : r2[0] = n0 := by simp only [e2]; rfl
            rw [e3] at rx
            obtain ⟨ux, hux⟩ : ∃ ux, ux = (vs6[0]).1 := ⟨_, rfl⟩
            have cx1 : w6.cell? ⟨b, o + 0, none⟩ = some ux := by rw [hux]; simpa [eVal] using cx0
            rw [← hux] at rx
            subst hA
            obtain ⟨Ax, cxx, hux2, _, _⟩ := rx.rd.shape
            subst hux2
            have HREL : Hid (CoRel mo cO n0 (.slice Ax n0.length cxx) w5.heap.size w4 (.slice A6 mo.length c6) (.int .i64 0) w6) := hide ⟨0, by omega, rfl, by rw [List.take_zero, List.map_nil, List.append_nil]; exact HO7.out, rx, K54.out.trans kk6⟩
            rw [Nat.add_zero] at cx1
            clear e2 e3 rx cx cx0 hv0 hux
            go_wp2_with fail
            rw [d1]
            go_loopw [11, 78] (CoRel mo cO n0 (.slice Ax n0.length cxx) w5.heap.size w4) (fun _ i _ => n0.length - (intOf i).toNat)
            case atStart => exact HREL.out
            case round =>
              clear HREL
              obtain ⟨k, hk, rfl, ho, hx, hkp⟩ := hrel
              have HO := hide ho
              have HX := hide hx
              have HHI := hide ho.hi
              by_cases hlt : k < n0.length
              · obtain ⟨b3, o3, hAx, _, x0⟩ := hx.rd.int hlt
                subst hAx
                obtain ⟨y, hy⟩ : ∃ y, y = n0[k] := ⟨_, rfl⟩
                rw [← hy] at x0
                obtain ⟨X, hX⟩ : ∃ X, X = mo ++ (n0.take k).map cO := ⟨_, rfl⟩
                have hXl : X.length ≤ 450 := by rw [hX, List.length_append, List.length_map, List.length_take]; have := hnl; omega
                have HN : Hid (X ++ [((3, y, 0) : O3)] = mo ++ (n0.take (k + 1)).map cO) := hide (by rw [List.take_succ_eq_append_getElem hlt, List.map_append, hX, hy, ← List.append_assoc]; rfl)
                rw [← hX] at HO ho
                have hap := hx.apart ho (by decide)
                have HAP := hide hap
                have HM1 : Hid ((X.length + [((3, y, 0) : O3)].length) * 24 ≤ 140737488355328) := hide (by simp; omega)
                have HM2 : Hid (X.length + [((3, y, 0) : O3)].length ≤ maxLen) := hide (by simp [maxLen]; omega)
                clear hy hX hXl ho hx hap
                go_wp2_with (at_builtin; (with_reducible refine list_app (B := w4.heap.size) (l := X) (m := [((3, y, 0) : O3)]) row_op u11 ?_ (.tmp 82) (.tmp 85) ?_ ?_ ?_ ?_ HM1.out HM2.out ?_ ?_); (with_reducible rfl); (with_reducible rfl); rfl; (exact HO.out.alloc _); (show RD _ _ (.slice (some ⟨_, 0, none⟩) 1 1) _; (focus ((repeat (first | (with_reducible assumption) | exact RD.new1 _ rfl | (refine RD.new1e _ ?_ rfl; simp; done) | (with_reducible apply RD.alloc) | (with_reducible apply RD.drew) | (with_reducible apply RD.drewN) | ((with_reducible apply RD.belowR); (with_reducible assumption)))); done))); (have h1 := hkp.size; simp; omega); intro v9 w9 ho9 hg9 hat9)
                go_roundw
                case rel => exact ⟨k + 1, by omega, by go_num, by rw [← HN.out]; exact ho9, (HX.out.alloc _).kept hg9 HAP.out, Kp.app hg9 hkp.alloc HHI.out⟩
                case measure => simp [intOf] <;> omega
              · have hkk : n0.take k = n0 := List.take_of_length_le (by omega)
                rw [hkk] at HO
                go_wp2_with fail
                go_meet
                exact ⟨HO.out, hkp⟩
        case rest =>
          obtain ⟨ho8, hk8⟩ := hcut
          have HO8 := hide ho8
          have HK84 := hide hk8
          have hs84 : w4.heap.size ≤ wc.heap.size := Kp.size hk8
          clear ho8 hk8 HO7
          have HRV := hide (reversed_any ks _ wc (HK8.out.kp (kk3.trans (kk4.trans HK84.out))) (by omega))
          have hrvl : ks.reverse.length ≤ 200 := by simp; omega
          obtain ⟨L, hL⟩ : ∃ L, L = ks.reverse := ⟨_, rfl⟩
          rw [← hL] at HRV HAN hrvl
          clear hL
          go_wp2_with fail
          with_reducible refine HRV.out.mono ?_
          rintro e w9 ⟨v9, rfl, ho9, hb9⟩
          have kk9 : Kp wc w9 := Kp.of hb9
          obtain ⟨A9, c9, hv9, _, _⟩ := ho9.rd.shape
          subst hv9
          have HREL : Hid (CoRel (mo ++ n0.map cO) pOO L (.slice A9 L.length c9) wc.heap.size w4 _ (.int .i64 0) w9) := hide ⟨0, by omega, rfl, by rw [List.take_zero, List.map_nil, List.append_nil]; exact HO8.out.kp kk9, ho9, HK84.out.trans kk9⟩
          obtain ⟨mo2, hmo2⟩ : ∃ mo2, mo2 = mo ++ n0.map cO := ⟨_, rfl⟩
          have hmol2 : mo2.length ≤ 250 := by rw [hmo2]; simp; omega
          rw [← hmo2] at HREL HAN
          clear ho9 hb9 hmo2
          go_wp2
          go_loopw [11, 91] (CoRel mo2 pOO L (.slice A9 L.length c9) wc.heap.size w4) (fun _ i _ => L.length - (intOf i).toNat)
          case atStart => exact HREL.out
          case round =>
            clear HREL
            obtain ⟨k, hk, rfl, ho, hx, hkp⟩ := hrel
            have HO := hide ho
            have HX := hide hx
            have HHI := hide ho.hi
            by_cases hlt : k < L.length
            · obtain ⟨b3, o3, hAx, _, x0⟩ := hx.rd.int hlt
              subst hAx
              obtain ⟨y, hy⟩ : ∃ y, y = L[k] := ⟨_, rfl⟩
              rw [← hy] at x0
              obtain ⟨X, hX⟩ : ∃ X, X = mo2 ++ (L.take k).map pOO := ⟨_, rfl⟩
              have hXl : X.length ≤ 450 := by rw [hX, List.length_append, List.length_map, List.length_take]; have := hrvl; omega
              have HN : Hid (X ++ [((1, y, 0) : O3)] = mo2 ++ (L.take (k + 1)).map pOO) := hide (by rw [List.take_succ_eq_append_getElem hlt, List.map_append, hX, hy, ← List.append_assoc]; rfl)
              rw [← hX] at HO ho
              have hap := hx.apart ho (by decide)
              have HAP := hide hap
              have HM1 : Hid ((X.length + [((1, y, 0) : O3)].length) * 24 ≤ 140737488355328) := hide (by simp; omega)
              have HM2 : Hid (X.length + [((1, y, 0) : O3)].length ≤ maxLen) := hide (by simp [maxLen]; omega)
              clear hy hX hXl ho hx hap
              go_wp2_with (at_builtin; (with_reducible refine list_app (B := w4.heap.size) (l := X) (m := [((1, y, 0) : O3)]) row_op u11 ?_ (.tmp 95) (.tmp 98) ?_ ?_ ?_ ?_ HM1.out HM2.out ?_ ?_); (with_reducible rfl); (with_reducible rfl); rfl; (exact HO.out.alloc _); (show RD _ _ (.slice (some ⟨_, 0, none⟩) 1 1) _; (focus ((repeat (first | (with_reducible assumption) | exact RD.new1 _ rfl | (refine RD.new1e _ ?_ rfl; simp; done) | (with_reducible apply RD.alloc) | (with_reducible apply RD.drew) | (with_reducible apply RD.drewN) | ((with_reducible apply RD.belowR); (with_reducible assumption)))); done))); (have h1 := hkp.size; simp; omega); intro v9 w9 ho9 hg9 hat9)
              go_roundw
              case rel => exact ⟨k + 1, by omega, by go_num, by rw [← HN.out]; exact ho9, (HX.out.alloc _).kept hg9 HAP.out, Kp.app hg9 hkp.alloc HHI.out⟩
              case measure => simp [intOf] <;> omega
            · have hkk : L.take k = L := List.take_of_length_le (by omega)
              rw [hkk] at HO
              obtain ⟨all, hall⟩ : ∃ all, all = mo2 ++ L.map pOO := ⟨_, rfl⟩
              rw [← hall] at HO HAN
              have HRU3 := hide (skRun_any all _ wr HO.out.rd (HDB.out.kp (K4.out.trans hkp)) (Nat.lt_of_lt_of_le h0 (K4.out.trans hkp).size))
              rw [skRun_eq] at HRU3
              clear hall hkk ho
              by_cases hal : all.length > 300
              · rw [if_pos hal] at HRU3
                clear hal
                go_wp2_with fail
                with_reducible refine HRU3.out.mono ?_
                rintro e w10 ⟨v10, u10, rfl, hr10, hu10, kk10⟩
                clear hr10 hu10
                go_wp2
                go_ret
                exact ⟨rfl, ((K4.out.trans hkp).trans kk10).bel⟩
              · rw [if_neg hal, HAN.out, ← HRR.out] at HRU3
                clear hal
                go_wp2_with fail
                with_reducible refine HRU3.out.mono ?_
                rintro e w10 ⟨v10, u10, rfl, hr10, hu10, kk10⟩
                have HC3 := hide (sameRows_any rr rr v10 _ w10 hr10 (HR1.out.kp (kk2.trans (kk3.trans (kk4.trans (hkp.trans kk10))))) (by have := HRL.out; omega))
                rw [decide_eq_true rfl] at HC3
                clear hr10 hu10
                go_wp2_with fail
                with_reducible refine HC3.out.mono ?_
                rintro e w11 ⟨rfl, hb11⟩
                have kk11 : Kp w10 w11 := Kp.of hb11
                clear hb11
                go_wp2
                go_ret
                exact ⟨rfl, ((K4.out.trans hkp).trans (kk10.trans kk11)).bel⟩
end Go.Proofs.YtfojphaemfbfnaaDoor
namespace Go.Proofs.YtfojphaemfbfnaaDoor
open Go.ChangeShapes Go.WideShapes Go.ChangeAt Go.RowKit Go.Deep
set_option linter.unusedVariables false
set_option linter.unusedSimpArgs false

set_option maxRecDepth 100000 in
theorem skipOne_lifted (os : Os) (started : os.Started) (H : Type) (enc : TypeId × Value → H) :
    ReturnsInHanded {} Tryd.checked os 6 .any (fun w args => (Rows.skipOneSpec.pre enc Tryd.prog Tryd.f6 Rows.skipOneRow.domain false w args ∧ laidMetH Tryd.prog ZLaid w) ∧ sizedMet enc Tryd.prog Tryd.f6 (OpenSpec.ofChange Rows.skipOneSpec) false w args) (Rows.skipOneSpec.post enc Tryd.prog Tryd.f6 false true false false) := by
  refine returnsInHanded_of_change_and (C := Tryd.checked) (X := fun w _ => laidMetH Tryd.prog ZLaid w) (fun _ _ _ hh h => h.of_heap hh) own started (by kernel_rfl) Tryd.func6
    (ChangeSpec.witness_at (enc := enc) (C := Tryd.checked) (os := os) (X := fun w _ => laidMetH Tryd.prog ZLaid w) false (laidWorldZ os) #[.slice none 0 0, .slice none 0 0] 8 rfl (by kernel_rfl) (by kernel_rfl) (by kernel_rfl) (by kernel_rfl) (by kernel_rfl) (laidZ_met os _)) ?_
  intro W base args ds gs before hval0 hW hcnd hsz hL _
  have hval : ∀ (j : Nat) t v, Tryd.f6.params[j]? = some t → args[j]? = some v → Value.okWide Tryd.prog W .any base t v := hval0
  have hW' := hW
  obtain ⟨p, q, hA0, hV, rfl, hfz, hnd⟩ := hW
  have hA : DataW.TrodAll enc Tryd.prog W 0 (fun _ => true) true Tryd.f6.params.toList args.toList ds p := hA0
  rw [Tryd.params6] at hA hval
  obtain ⟨v0, vs0, d0, ds0, p0, q0, hargs, rfl, rfl, h0, r0⟩ := trodAll_cons hA
  obtain ⟨v1, vs1, d1, ds1, p1, q1, rfl, rfl, rfl, h1, r1⟩ := trodAll_cons r0
  obtain ⟨rfl, rfl, rfl⟩ := trodAll_nil r1
  obtain rfl : args = #[v0, v1] := by cases args; simp_all
  obtain ⟨rfl, rfl⟩ := trodVars_none hV
  obtain ⟨a0, n0, c0, rfl⟩ := okWide_slice Tryd.underlying40 (hval 0 40 v0 rfl rfl)
  obtain ⟨a1, n1, c1, rfl⟩ := okWide_slice Tryd.underlying40 (hval 1 40 v1 rfl rfl)
  have lt0 : ∀ x ∈ p0, x.block < W.heap.size := by obtain ⟨m, hm⟩ := h0; exact DataW.trod_lt m _ _ _ hm
  have lt1 : ∀ x ∈ p1, x.block < W.heap.size := by obtain ⟨m, hm⟩ := h1; exact DataW.trod_lt m _ _ _ hm
  obtain ⟨l0, w0⟩ := arg_ops h0
  obtain ⟨l1, w1⟩ := arg_ops h1
  have hn1 : n1 * 24 ≤ 140737488355328 := ops_reach hsz (j := 1) rfl rfl h1
  have hm1 : l1.length * 24 ≤ 140737488355328 := by
    obtain ⟨_, _, e, _⟩ := w1
    injection e with _ e _
    omega
  clear hA0 hval0
  refine (skipOne_walk l0 l1 _ _ W w0 w1 hm1 (db_of_laid hL)).mono fun e W' ⟨he, bel⟩ => ?_
  subst he
  exact ⟨_, rfl, _, _, _, [], _, [], hW', trodAll_mk1 (shut_bool Tryd.underlying4 _), (trodAll_cons_mk (Below.trod laidOut (by kernel_rfl) (of_decide_eq_true (by kernel_rfl)) h0 bel lt0) (trodAll_cons_mk (Below.trod laidOut (by kernel_rfl) (of_decide_eq_true (by kernel_rfl)) h1 bel lt1) trodAll_mk0)), rfl, bel.frame _, fun h => by cases h⟩

set_option maxRecDepth 100000 in
set_option maxHeartbeats 8000000 in
theorem skipOne_closed : joinedFacts Tryd.checked.prog 6 Tryd.f6 Rows.skipOneSpec Rows.skipOneRow = true := by
  unfold joinedFacts
  repeat' (with_reducible refine and_true_of ?_ ?_)
  all_goals (as_aux_lemma => kernel_rfl)
theorem skipOne_over : Rows.skipOneRow.holds Tryd.pinned (OpenSpec.ofChange Rows.skipOneSpec) :=
  OpenClaim.holds_of_wide 6 Tryd.f6 rfl rfl rfl rfl rfl rfl rfl ⟨rfl, rfl, rfl, rfl, rfl⟩ rfl rfl rfl rfl rfl (by as_aux_lemma => kernel_rfl) Tryd.func6 skipOne_closed
    (of_decide_eq_true (by as_aux_lemma => kernel_rfl)) (by as_aux_lemma => unfold Func.isWrapper; first | (rw [if_pos (by decide +kernel)]; kernel_rfl) | (rw [if_neg (by decide +kernel)]; exact ⟨rfl, rfl⟩))
    (fun os started H enc _ => skipOne_lifted os started H enc)
set_option maxRecDepth 100000 in
theorem skipOne_proved : Rows.SkipOneCardSaid :=
  Claim7.holds_tied_plain_at .later [] [.data] true _ false skipOne_over (fun _ h => by cases h) (by kernel_rfl) (fun _ h => by cases h) skipOne_row_tie rfl ⟨rfl, rfl⟩ (by kernel_rfl) rfl
    (fun f fn hf hfn => by
      obtain rfl : f = 6 := Option.some.inj ((show Tryd.prog.funcNamed "hedgewright/hedgkeep.SkipOne" = some 6 by kernel_rfl).symm.trans hf) |>.symm
      obtain rfl : fn = Tryd.f6 := (Option.some.inj (Tryd.func6.symm.trans hfn)).symm
      exact ⟨by kernel_rfl, fun j t ht => by
        have h : (Tryd.f6.params.toList.all fun t => !Tryd.prog.wantsStandIn t) = true := by kernel_rfl
        have hm : t ∈ Tryd.f6.params.toList := by
          rw [Array.mem_toList_iff]
          exact Array.mem_of_getElem? ht
        have h2 : Tryd.prog.wantsStandIn t = false := by simpa using List.all_eq_true.1 h t hm
        exact h2⟩)
    (by kernel_rfl)
#print axioms skipOne_proved
end Go.Proofs.YtfojphaemfbfnaaDoor
