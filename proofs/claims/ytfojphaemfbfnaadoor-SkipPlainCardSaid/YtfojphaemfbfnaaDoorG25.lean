/-
  slices.Equal at answers: of two that read as one list it answers true. Conditions: both read as l (RD).
  hedgref.MapKeys: what it answers. Conditions: the list reads as l (RD).
  Plain laws of rows and stops: a row's keys; a path rises, its rows go down, each stop is met in its highest row, the last one is the nearest key below. No program. Conditions: the keys rise and are in their bounds.
  hedgkeep.ok: what it answers. Conditions: the list reads as l (RD).
  hedgkeep.skipLives: it answers true. Conditions: the table of math/bits holds what it is laid with (DTb).
-/
import Derived.Test.YtfojphaemfbfnaaDoorG2
import Derived.Test.YtfojphaemfbfnaaDoorG10
import Derived.Test.YtfojphaemfbfnaaDoorG1
import Derived.Test.YtfojphaemfbfnaaDoorG19
import Derived.Test.YtfojphaemfbfnaaDoorG23

namespace Go.Proofs.YtfojphaemfbfnaaDoor
open Go.ChangeShapes Go.WideShapes Go.ChangeAt Go.RowKit
set_option linter.unusedVariables false
set_option linter.unusedSimpArgs false

def CtRel (n : Nat) (w : World) (i : Value) (wr : World) : Prop := ∃ k : Nat, k ≤ n ∧ i = .int .i64 k ∧ Kp w wr
set_option maxHeartbeats 1000000 in
theorem eqAns_same (l : List An) (v u : Value) (w : World) (hl : RD w eAns v l) (hm : RD w eAns u l) : Calls Tryd.prog 22 #[v, u] w (Ret (.bool true) w) := by
  obtain ⟨A, c, rfl, hc, hc'⟩ := hl.shape
  obtain ⟨A2, c2, rfl, hc2, hc2'⟩ := hm.shape
  have HL := hide hl
  have HM := hide hm
  clear hl hm
  have hn : ((l.length : Int) != (l.length : Int)) = false := by simp
  go_enter Tryd.func22, Tryd.ntmps22
  go_wp2
  go_loopw [13] (CtRel l.length w) (fun i wr => l.length - (intOf i).toNat)
  case atStart => exact ⟨0, by omega, rfl, Kp.refl _⟩
  case round =>
    obtain ⟨k, hk, rfl, hkp⟩ := hrel
    by_cases hlt : k < l.length
    · obtain ⟨b, o, rfl, hb, c0, c1, c4, c3⟩ := (HL.out.kp hkp).ans hlt
      obtain ⟨b2, o2, rfl, hb2, d0, d1, d2, d3⟩ := (HM.out.kp hkp).ans hlt
      go_wp2_with fail
      go_quiet (fail)
      go_wp2
      go_roundw
      case rel => exact ⟨k + 1, by omega, by go_num, by (focus ((repeat (first | (with_reducible assumption) | (with_reducible exact Kp.refl _) | (with_reducible apply Kp.drew) | (with_reducible apply Kp.drewN) | ((with_reducible apply Kp.setR); (focus (first | (with_reducible assumption) | (simp; done) | (simp; omega)))) | (with_reducible apply Kp.alloc) | ((with_reducible apply Kp.call); (with_reducible assumption)) | ((with_reducible apply Kp.app); (with_reducible assumption)))); done))⟩
      case measure => simp [intOf]; omega
    · go_wp2
      go_ret
      exact ⟨rfl, hkp.bel⟩
end Go.Proofs.YtfojphaemfbfnaaDoor
namespace Go.Proofs.YtfojphaemfbfnaaDoor
open Go.ChangeShapes Go.WideShapes Go.ChangeAt Go.RowKit
set_option linter.unusedVariables false
set_option linter.unusedSimpArgs false

def MkRel (l : List IP) (w : World) (ov iv : Value) (wr : World) : Prop := ∃ k : Nat, k ≤ l.length ∧ iv = .int .i64 k ∧ OW wr w.heap.size 3 eInt ov ((l.take k).map Prod.fst) ∧ Kp w wr
set_option maxRecDepth 100000 in
set_option maxHeartbeats 1000000 in
theorem mapKeys_any (l : List IP) (v : Value) (w : World) (hr : RD w ePair v l) (hn : l.length ≤ 1000000) : Calls Tryd.prog 21 #[v] w (RetOW 3 eInt (l.map Prod.fst) w) := by
  obtain ⟨A, c, rfl, hc, hm⟩ := hr.shape
  have HR := hide hr
  clear hr
  go_enter Tryd.func21, Tryd.ntmps21
  go_wp2
  go_loopw [3, 8] (MkRel l w) (fun _ i _ => l.length - (intOf i).toNat)
  case atStart => exact ⟨0, by omega, rfl, OW.nil, Kp.refl _⟩
  case round =>
    obtain ⟨k, hk, rfl, ho, hkp⟩ := hrel
    have hi := ho.hi
    have HO := hide ho
    obtain ⟨u, hu⟩ : ∃ u, u = u3 := ⟨_, rfl⟩
    by_cases hlt : k < l.length
    · obtain ⟨b, o, rfl, _, x0, x1⟩ := (HR.out.kp hkp).pair hlt
      obtain ⟨y, hy⟩ : ∃ y, y = l[k].1 := ⟨_, rfl⟩
      rw [← hy] at x0
      have HN : Hid ((l.take k).map Prod.fst ++ [y] = (l.take (k + 1)).map Prod.fst) := hide (by rw [List.take_succ_eq_append_getElem hlt, List.map_append, hy]; rfl)
      have HM1 : Hid ((((l.take k).map Prod.fst).length + [y].length) * 8 ≤ 140737488355328) := hide (by simp; omega)
      have HM2 : Hid (((l.take k).map Prod.fst).length + [y].length ≤ maxLen) := hide (by simp [maxLen]; omega)
      clear hy ho hu
      go_wp2_with (at_builtin; (with_reducible refine list_app (B := w.heap.size) (l := (l.take k).map Prod.fst) (m := [y]) row_int u3 ?_ (.tmp 12) (.tmp 15) ?_ ?_ ?_ ?_ HM1.out HM2.out ?_ ?_); (with_reducible rfl); (with_reducible rfl); rfl; ((with_reducible apply OW.alloc); (with_reducible apply OW.alloc); exact HO.out); (show RD _ _ (.slice (some ⟨_, 0, none⟩) 1 1) _; (focus ((repeat (first | (with_reducible assumption) | exact RD.new1 _ rfl | (refine RD.new1e _ ?_ rfl; simp; done) | (with_reducible apply RD.alloc) | (with_reducible apply RD.drew) | (with_reducible apply RD.drewN) | ((with_reducible apply RD.belowR); (with_reducible assumption)))); done))); (have := hkp.size; simp; omega); intro v3 w3 ho3 hg3 hat3)
      go_roundw
      case rel => exact ⟨k + 1, by omega, by go_num, by rw [← HN.out]; exact ho3, Kp.app hg3 hkp.alloc.alloc hi⟩
      case measure => simp [intOf]; omega
    · have hkl : Hid ((l.take k).map Prod.fst = l.map Prod.fst) := hide (by rw [List.take_of_length_le (by omega)])
      clear ho hu
      go_wp2
      go_ret
      exact ⟨_, rfl, by rw [← hkl.out]; exact HO.out, hkp.bel⟩

end Go.Proofs.YtfojphaemfbfnaaDoor
namespace Go.Proofs.YtfojphaemfbfnaaDoor
open Go.ChangeShapes Go.WideShapes Go.ChangeAt Go.RowKit
set_option linter.unusedVariables false
set_option linter.unusedSimpArgs false

theorem mem_rowH {H : Int → Int} {ks : List Int} {r : Nat} {x : Int} : x ∈ rowH H ks r ↔ x ∈ ks ∧ (r : Int) < H x := by
  unfold rowH
  rw [List.mem_filter, decide_eq_true_eq]
theorem mem_rowK {ks : List Int} {r : Nat} {x : Int} : x ∈ rowK ks r ↔ x ∈ ks ∧ (r : Int) < hgtF x := mem_rowH
theorem rowH_0 {H : Int → Int} (h : ∀ k, 1 ≤ H k) (ks : List Int) : rowH H ks 0 = ks := by
  unfold rowH
  rw [List.filter_eq_self]
  intro k _
  rw [decide_eq_true_eq]
  have := h k
  omega
theorem rowK_0 (ks : List Int) : rowK ks 0 = ks := rowH_0 (fun k => (hgtF_in k).1) ks
theorem rowsN_nil : rowsN [] 12 = [] := by
  obtain ⟨R, h1, h2, h3, h4⟩ := rowsN_range []
  have : R = 0 := by
    by_cases e : R = 0
    · exact e
    · exact absurd (rowK_nil 0) (h4 0 (by omega))
  rw [h2, this]; rfl
theorem rowsN_head {ks : List Int} (h : ks ≠ []) : ∃ R, R ≤ 11 ∧ rowsN ks 12 = ks :: (List.range R).map (fun r => rowK ks (r + 1)) := by
  obtain ⟨R, h1, h2, h3, h4⟩ := rowsN_range ks
  cases R with
  | zero => exact absurd (by rw [← rowK_0 ks]; exact h3 0 (Nat.le_refl _)) h
  | succ R =>
    refine ⟨R, by omega, ?_⟩
    rw [h2, List.range_succ_eq_map, List.map_cons, List.map_map, rowK_0]
    rfl
/-- All that is known of the stops when n rows are done. -/
structure StI (ks : List Int) (key : Int) (H : Int → Int) (n : Nat) (P : List IP) (la : Int) : Prop where
  all : ∀ p ∈ P, p.2 ∈ ks ∧ p.2 < key ∧ p.1 = H p.2 - 1 ∧ p.2 ≤ la ∧ ((12 - n : Nat) : Int) ≤ p.1
  last : (P = [] ∧ la = -1) ∨ ∃ Q r, P = Q ++ [(r, la)]
  done : ∀ k ∈ ks, k < key → ((12 - n : Nat) : Int) < H k → k ≤ la
  up : P.Pairwise fun a b => a.2 < b.2 ∧ b.1 ≤ a.1
theorem stI_step {ks : List Int} {key : Int} {H : Int → Int} {n : Nat} {P : List IP} {la : Int} (hp : ks.Pairwise (· < ·)) (hb : ∀ x ∈ ks, 0 ≤ x ∧ x ≤ 1000000) (h : StI ks key H n P la) (hn : n < 12) :
    StI ks key H (n + 1) (P ++ (stL (rowH H ks (11 - n)) key la).map fun k => (((11 - n : Nat) : Int), k)) (lastOr (stL (rowH H ks (11 - n)) key la) la) := by
  obtain ⟨r, hr⟩ : ∃ r, r = 11 - n := ⟨_, rfl⟩
  have e1 : 12 - n = r + 1 := by omega
  have e2 : 12 - (n + 1) = r := by omega
  obtain ⟨h1, h2, h3, h4⟩ := h
  rw [e1] at h1 h3
  rw [← hr]
  have hL : ∀ k, k ∈ stL (rowH H ks r) key la ↔ k ∈ ks ∧ (r : Int) < H k ∧ la + 1 ≤ k ∧ k ≤ key - 1 := fun k => by
    unfold stL
    rw [List.mem_filter, mem_rowH, decide_eq_true_eq]
    exact and_assoc
  have hLp : (stL (rowH H ks r) key la).Pairwise (· < ·) := List.Pairwise.filter _ (List.Pairwise.filter _ hp)
  obtain ⟨L, hLe⟩ : ∃ L, L = stL (rowH H ks r) key la := ⟨_, rfl⟩
  rw [← hLe] at hL hLp ⊢
  have hH : ∀ k ∈ L, H k = (r : Int) + 1 := fun k hk => by
    obtain ⟨a, b, c, d⟩ := (hL k).1 hk
    by_cases e : (((r + 1 : Nat)) : Int) < H k
    · have := h3 k a (by omega) e; omega
    · omega
  have hlast : (L = [] ∧ lastOr L la = la) ∨ (lastOr L la ∈ L ∧ ∀ k ∈ L, k ≤ lastOr L la) := by
    rcases List.eq_nil_or_concat L with e | ⟨L', y, e⟩
    · exact .inl ⟨e, by rw [e]; rfl⟩
    · right
      rw [List.concat_eq_append] at e
      rw [e, lastOr_snoc]
      refine ⟨by simp, fun k hk => ?_⟩
      rw [e] at hLp
      rcases List.mem_append.1 hk with hk | hk
      · have := (List.pairwise_append.1 hLp).2.2 k hk y (by simp); omega
      · simp at hk; omega
  have hge : la ≤ lastOr L la := by
    rcases hlast with ⟨_, e⟩ | ⟨e, _⟩
    · omega
    · have := ((hL _).1 e).2.2.1; omega
  refine ⟨fun p hp' => ?_, ?_, fun k hk hkk hkr => ?_, ?_⟩
  · rw [e2]
    rcases List.mem_append.1 hp' with hp' | hp'
    · obtain ⟨a, b, c, d, f⟩ := h1 p hp'
      exact ⟨a, b, c, by omega, by omega⟩
    · obtain ⟨k, hk, rfl⟩ := List.mem_map.1 hp'
      obtain ⟨a, b, c, d⟩ := (hL k).1 hk
      have := hH k hk
      refine ⟨a, by simp only; omega, by simp only; omega, ?_, Int.le_refl _⟩
      rcases hlast with ⟨e, _⟩ | ⟨_, e⟩
      · rw [e] at hk; cases hk
      · exact e k hk
  · rcases List.eq_nil_or_concat L with e | ⟨L', y, e⟩
    · rw [e, List.map_nil, List.append_nil, lastOr_nil]; exact h2
    · right
      rw [List.concat_eq_append] at e
      rw [e, lastOr_snoc, List.map_append, ← List.append_assoc]
      exact ⟨_, _, rfl⟩
  · rw [e2] at hkr
    by_cases e : la + 1 ≤ k
    · have hm : k ∈ L := (hL k).2 ⟨hk, hkr, e, by omega⟩
      rcases hlast with ⟨e', _⟩ | ⟨_, e'⟩
      · rw [e'] at hm; cases hm
      · exact e' k hm
    · omega
  · rw [List.pairwise_append]
    refine ⟨h4, ?_, fun a ha b hb' => ?_⟩
    · rw [List.pairwise_map]
      exact hLp.imp fun h => ⟨h, Int.le_refl _⟩
    · obtain ⟨k, hk, rfl⟩ := List.mem_map.1 hb'
      obtain ⟨_, _, _, d, f⟩ := h1 a ha
      have := ((hL k).1 hk).2.2.1
      simp only
      omega
theorem stI_all {ks : List Int} {key : Int} (hp : ks.Pairwise (· < ·)) (hb : ∀ x ∈ ks, 0 ≤ x ∧ x ≤ 1000000) : ∀ n, n ≤ 12 → StI ks key hgtF n (stAll ks key n).1 (stAll ks key n).2
  | 0, _ => ⟨fun p hp => (by cases hp), .inl ⟨rfl, rfl⟩, fun k hk _ h => (by have := (hgtF_in k).2; omega), List.Pairwise.nil⟩
  | n + 1, hn => stI_step hp hb (stI_all hp hb n (by omega)) (by omega)
/-- The nearest key below. -/
def belowL (ks : List Int) (key : Int) : Int := lastOr (ks.filter fun k => decide (k < key)) (-1)
theorem belowL_take (ks : List Int) (key : Int) (k : Nat) (h : k < ks.length) : belowL (ks.take (k + 1)) key = if ks[k] < key then ks[k] else belowL (ks.take k) key := by
  unfold belowL
  rw [List.take_succ_eq_append_getElem h, List.filter_append]
  by_cases e : ks[k] < key
  · rw [if_pos e]
    have : ([ks[k]].filter fun k => decide (k < key)) = [ks[k]] := by simp [e]
    rw [this, lastOr_snoc]
  · rw [if_neg e]
    have : ([ks[k]].filter fun k => decide (k < key)) = [] := by simp [e]
    rw [this, List.append_nil]
theorem belowL_st {ks : List Int} {key : Int} (hp : ks.Pairwise (· < ·)) (hb : ∀ x ∈ ks, 0 ≤ x ∧ x ≤ 1000000) : belowL ks key = (stAll ks key 12).2 := by
  obtain ⟨h1, h2, h3, h4⟩ := stI_all (key := key) hp hb 12 (Nat.le_refl _)
  have hF : ∀ k, k ∈ (ks.filter fun k => decide (k < key)) ↔ k ∈ ks ∧ k < key := fun k => by rw [List.mem_filter, decide_eq_true_eq]
  have hFp : (ks.filter fun k => decide (k < key)).Pairwise (· < ·) := List.Pairwise.filter _ hp
  have hla : (stAll ks key 12).2 = -1 ∨ ((stAll ks key 12).2 ∈ ks ∧ (stAll ks key 12).2 < key) := by
    rcases h2 with ⟨_, e⟩ | ⟨Q, r, e⟩
    · exact .inl e
    · right
      have := h1 (r, (stAll ks key 12).2) (by rw [e]; simp)
      exact ⟨this.1, this.2.1⟩
  unfold belowL
  rcases List.eq_nil_or_concat (ks.filter fun k => decide (k < key)) with e | ⟨L', y, e⟩
  · rw [e, lastOr_nil]
    rcases hla with h | h
    · exact h.symm
    · have := (hF _).2 h
      rw [e] at this; cases this
  · rw [List.concat_eq_append] at e
    rw [e, lastOr_snoc]
    have hy := (hF y).1 (by rw [e]; simp)
    have hle := h3 y hy.1 hy.2 (by have := (hgtF_in y).1; omega)
    rcases hla with h | h
    · have := hb y hy.1; omega
    · have hm := (hF _).2 h
      rw [e] at hm hFp
      rcases List.mem_append.1 hm with hm | hm
      · have := (List.pairwise_append.1 hFp).2.2 _ hm y (by simp); omega
      · simp at hm; omega
end Go.Proofs.YtfojphaemfbfnaaDoor
namespace Go.Proofs.YtfojphaemfbfnaaDoor
open Go.ChangeShapes Go.WideShapes Go.ChangeAt Go.RowKit
set_option linter.unusedVariables false
set_option linter.unusedSimpArgs false

def okL (l : List Int) : Bool := l.all fun e => e == 0
def OkRel (l : List Int) (w : World) (i : Value) (wr : World) : Prop := ∃ k : Nat, k ≤ l.length ∧ i = .int .i64 k ∧ okL (l.drop k) = okL l ∧ w = wr

set_option maxHeartbeats 400000 in
theorem ok_any (l : List Int) (v : Value) (w : World) (hr : RD w eInt v l) : Calls Tryd.prog 43 #[v] w fun e w' => e = .returned (.bool (okL l)) ∧ w = w' := by
  obtain ⟨A, c, rfl, hc, hm⟩ := hr.shape
  have HR := hide hr
  clear hr
  go_enter Tryd.func43, Tryd.ntmps43
  go_wp2
  go_loopw [7] (OkRel l w) (fun i _ => l.length - (intOf i).toNat)
  case atStart => exact ⟨0, by omega, rfl, rfl, rfl⟩
  case round =>
    obtain ⟨k, hk, rfl, hok, rfl⟩ := hrel
    have HO := hide hok
    clear hok
    by_cases hlt : k < l.length
    · obtain ⟨b, o, rfl, hb, c0⟩ := HR.out.int hlt
      have hd : Hid (okL (l.drop k) = (l[k] == 0 && okL (l.drop (k + 1)))) := hide (by rw [List.drop_eq_getElem_cons hlt]; rfl)
      by_cases h0 : l[k] = 0
      · have hn : (l[k] != 0) = false := by simp [h0]
        have hst : Hid (okL (l.drop (k + 1)) = okL l) := hide (by rw [← HO.out, hd.out, h0]; rfl)
        clear h0
        go_wp2
        go_roundw
        case rel => exact ⟨k + 1, by omega, by go_num, hst.out, rfl⟩
        case measure => simp [intOf]; omega
      · have hn : (l[k] != 0) = true := by simp [h0]
        have hst : Hid (okL l = false) := hide (by rw [← HO.out, hd.out]; simp [h0])
        clear h0
        go_wp2
        go_ret
        exact ⟨by rw [hst.out]; rfl, rfl⟩
    · have hst : Hid (okL l = true) := hide (by rw [← HO.out, List.drop_of_length_le (by omega)]; rfl)
      go_wp2
      go_ret
      exact ⟨by rw [hst.out]; rfl, rfl⟩
end Go.Proofs.YtfojphaemfbfnaaDoor
namespace Go.Proofs.YtfojphaemfbfnaaDoor
open Go.ChangeShapes Go.WideShapes Go.ChangeAt Go.RowKit
set_option linter.unusedVariables false
set_option linter.unusedSimpArgs false

theorem runL_sk : runL [(1, 2, 0), (1, 1, 0), (6, 2, 0)] = ([(1, 0), (2, 0)], [⟨0, 0, 0, false⟩, ⟨0, 0, 0, false⟩, ⟨0, 0, 1, true⟩]) := by rfl
theorem rows_sk {ks : List Int} (h : ks ≠ []) : ∃ T, T.length ≤ 11 ∧ rowsN ks 12 = ks :: T := by
  obtain ⟨R, h1, h2⟩ := rowsN_head h
  exact ⟨_, by rw [List.length_map, List.length_range]; exact h1, h2⟩
theorem stops_sk : ∃ Q r, (stAll [1, 2, 3] 3 12).1 = Q ++ [(r, 2)] ∧ Q.length ≤ 100 := by
  have hp : ([1, 2, 3] : List Int).Pairwise (· < ·) := by decide
  have hb : ∀ x ∈ ([1, 2, 3] : List Int), 0 ≤ x ∧ x ≤ 1000000 := by decide
  have h1 := belowL_st (key := 3) hp hb
  have h2 : belowL [1, 2, 3] 3 = 2 := by decide
  have h3 := (stAll_in hb 3 12).2.2
  rcases (stI_all (key := 3) hp hb 12 (Nat.le_refl _)).last with ⟨_, e⟩ | ⟨Q, r, e⟩
  · rw [← h1, h2] at e; cases e
  · rw [← h1, h2] at e
    refine ⟨Q, r, e, ?_⟩
    rw [e] at h3
    simp at h3
    omega
set_option maxRecDepth 100000 in
set_option maxHeartbeats 4000000 in
theorem skipLives_any (w : World) (hdb : DTb w) : Calls Tryd.prog 23 #[] w (Ret (.bool true) w) := by
  have HDB := hide hdb
  have h0 : 0 < w.heap.size := World.block_lt_of_cell? _ _ (hdb 0 (by omega))
  have HRO := hide (fun W v h hd => skRows_any [1, 2, 3] v W h hd)
  have HPA := hide (fun W v h hd => skPath_any [1, 2, 3] 3 v W h hd)
  have HRU := hide (fun W v h hd (hz : 0 < W.heap.size) => skRun_any [(1, 2, 0), (1, 1, 0), (6, 2, 0)] v W h hd hz)
  obtain ⟨T, hT, hrow⟩ := rows_sk (ks := [1, 2, 3]) (by simp)
  obtain ⟨T2, hT2, hrow2⟩ := rows_sk (ks := [1, 2]) (by simp)
  obtain ⟨Q, r, hst, hQ⟩ := stops_sk
  have e1 : rowsOf [1, 2, 3] = ([1, 2, 3] :: T, 0) := by rw [rowsOf, if_pos (by rfl), hrow]
  have e2 : pathOf [1, 2, 3] 3 = (Q ++ [(r, 2)], 0) := by rw [pathOf, if_pos (by rfl), if_pos (by decide), hst]
  have e3 : skRun [(1, 2, 0), (1, 1, 0), (6, 2, 0)] = ([1, 2] :: T2, [⟨0, 0, 0, false⟩, ⟨0, 0, 0, false⟩, ⟨0, 0, 1, true⟩], 0) := by
    rw [skRun_eq, if_neg (by decide), runL_sk]
    show (rowsN [1, 2] 12, _, _) = _
    rw [hrow2]
  rw [e1] at HRO
  rw [e2] at HPA
  rw [e3] at HRU
  clear e1 e2 e3 hst hrow hrow2 hdb
  go_enter Tryd.func23, Tryd.ntmps23
  go_wp2_with fail
  refine (HRO.out _ _ (RD.block (l := [1, 2, 3]) (heap_alloc_new w _) rfl (by simp [maxLen])) (HDB.out.kp (Kp.refl w).alloc)).mono ?_
  rintro e w1 ⟨v1, rfl, hr1, hk1⟩
  have kk1 : Kp w w1 := (Kp.refl w).alloc.trans hk1
  have HR1 := hide hr1
  clear hr1 hk1
  go_wp2_with fail
  refine (HPA.out _ _ (RD.block (l := [1, 2, 3]) (heap_alloc_new w1 _) rfl (by simp [maxLen])) (HDB.out.kp (kk1.trans (Kp.refl w1).alloc))).mono ?_
  rintro e w2 ⟨v2, rfl, hr2, hb2⟩
  have kk2 : Kp w1 w2 := (Kp.refl w1).alloc.trans (Kp.of hb2)
  have HR2 := hide hr2
  clear hr2 hb2
  go_wp2_with fail
  refine (HRU.out _ _ (RD.block (l := [(1, 2, 0), (1, 1, 0), (6, 2, 0)]) (heap_alloc_new w2 _) rfl (by simp [maxLen])) (HDB.out.kp ((kk1.trans kk2).trans (Kp.refl w2).alloc)) (by simp)).mono ?_
  rintro e w3 ⟨v3, u3, rfl, hr3, hu3, hk3⟩
  have kk3 : Kp w2 w3 := (Kp.refl w2).alloc.trans hk3
  have HR3 := hide hr3
  have HU3 := hide hu3
  clear hr3 hu3 hk3
  go_wp2_with fail
  refine (ok_any [0, 0, 0] _ _ (RD.block (l := [0, 0, 0]) (heap_alloc_new w3 _) rfl (by simp [maxLen]))).mono ?_
  rintro e w4 ⟨rfl, hw4⟩
  have kk4 : Kp w3 w4 := by rw [← hw4]; exact (Kp.refl w3).alloc
  have hok : okL [0, 0, 0] = true := rfl
  rw [hok]
  clear hw4 hok
  obtain ⟨A1, c1, hv1, _, _⟩ := HR1.out.shape
  subst hv1
  obtain ⟨b1, o1, x1, hA1, _, cx1, rx1⟩ := (HR1.out.kp (kk2.trans (kk3.trans kk4))).at_ (k := 0) (by simp)
  subst hA1
  obtain ⟨N1, hN1⟩ : ∃ N, N = ([1, 2, 3] :: T).length := ⟨_, rfl⟩
  have n1 : 0 < N1 := by rw [hN1]; simp
  obtain ⟨A3, c3, hv3, _, _⟩ := HR3.out.shape
  subst hv3
  obtain ⟨b3, o3, x3, hA3, _, cx3, rx3⟩ := (HR3.out.kp kk4).at_ (k := 0) (by simp)
  subst hA3
  obtain ⟨N3, hN3⟩ : ∃ N, N = ([1, 2] :: T2).length := ⟨_, rfl⟩
  have n3 : 0 < N3 := by rw [hN3]; simp
  obtain ⟨A2, c2, hv2, _, _⟩ := HR2.out.shape
  subst hv2
  obtain ⟨b2, o2, hA2, _, cx2, cy2⟩ := (HR2.out.kp (kk3.trans kk4)).pair (k := Q.length) (by simp)
  subst hA2
  obtain ⟨N2, hN2⟩ : ∃ N, N = (Q ++ [(r, 2)]).length := ⟨_, rfl⟩
  have n2 : N2 = Q.length + 1 := by rw [hN2]; simp
  have n2p : 0 < N2 := by omega
  obtain ⟨A4, c4, hv4, _, _⟩ := HU3.out.shape
  subst hv4
  obtain ⟨b4, o4, hA4, _, ca0, ca1, ca2, ca3⟩ := (HU3.out.kp kk4).ans (k := 2) (by simp)
  subst hA4
  have e2 : (Q ++ [(r, 2)])[Q.length]'(by simp) = (r, 2) := by simp
  rw [e2] at cy2
  simp only [List.getElem_cons_zero, List.getElem_cons_succ] at rx1 rx3 ca2
  have HX1 := hide rx1
  have HX3 := hide rx3
  have KK := hide (kk1.trans (kk2.trans (kk3.trans kk4)))
  have dN1 : decide (0 < N1) = true := decide_eq_true n1
  have dN3 : decide (0 < N3) = true := decide_eq_true n3
  have dN2 : decide (0 < N2) = true := decide_eq_true n2p
  have i1 : (0 : Int) < (N1 : Int) := by omega
  have i3 : (0 : Int) < (N3 : Int) := by omega
  have s2 : IntKind.i64.wrap ((N2 : Int) - 1) = (Q.length : Int) := by rw [IntWalk.i64_in _ (by omega)]; omega
  have i2 : (Q.length : Int) < (N2 : Int) := by omega
  have i20 : (0 : Int) ≤ (Q.length : Int) := by omega
  rw [← hN1, ← hN2, ← hN3]
  simp only [Nat.add_zero] at cx1 cx3
  clear rx1 rx3 hN1 hN2 hN3 e2 n1 n3 n2 n2p cx2 ca0 ca1 ca3
  go_wp2_with fail
  refine (eqInts_to [1, 2, 3] [1, 2, 3] true _ _ _ (HX1.out.kp (Kp.refl w4).alloc) (RD.block (l := [1, 2, 3]) (heap_alloc_new w4 _) rfl (by simp [maxLen])) (by decide)).mono ?_
  rintro e w5 ⟨rfl, hb5⟩
  have kk5 : Kp w4 w5 := (Kp.refl w4).alloc.trans (Kp.of hb5)
  have cy5 := kk5.cell cy2
  have cx5 := kk5.cell cx3
  have ca5 := kk5.cell ca2
  clear hb5 cx1 cx3 cy2 ca2
  go_wp2_with fail
  refine (eqInts_to [1, 2] [1, 2] true _ _ _ (HX3.out.kp (kk5.alloc)) (RD.block (l := [1, 2]) (heap_alloc_new w5 _) rfl (by simp [maxLen])) (by decide)).mono ?_
  rintro e w6 ⟨rfl, hb6⟩
  have kk6 : Kp w5 w6 := (Kp.refl w5).alloc.trans (Kp.of hb6)
  have ca6 := kk6.cell ca5
  clear hb6 cy5 cx5 ca5
  go_wp2
  go_ret
  exact ⟨rfl, (KK.out.trans (kk5.trans kk6)).bel⟩
end Go.Proofs.YtfojphaemfbfnaaDoor
