/-
  A list that tells each node ahead of what stands below it: keys that come so grow the tree. No program. Conditions: none.
  grow.right: what it answers. Conditions: the list reads as l (RD).
-/
import Derived.Test.YtnallpdmdhbidaaGrowFirstM24
import Derived.Test.YtnallpdmdhbidaaGrowFirstM11
import Derived.Maps.OwnOps
import Derived.Maps.Views

namespace Go.Proofs.Ytnallpdmdhbidaa
open Go.ChangeShapes Go.WideShapes Go.ChangeAt Go.RowKit
set_option linter.unusedVariables false
set_option linter.unusedSimpArgs false

def keysT : T → List Int
  | .nil => []
  | .node k l r => keysT l ++ [k] ++ keysT r
theorem keysT_spots : ∀ (t : T) (d : Int), (t.spots d).map Prod.fst = keysT t
  | .nil, _ => rfl
  | .node k l r, d => by simp [T.spots, keysT, keysT_spots l, keysT_spots r]
theorem keysT_len : ∀ t : T, (keysT t).length = t.size
  | .nil => rfl
  | .node k l r => by simp [keysT, T.size, keysT_len l, keysT_len r]; omega
/-- The keys stand in order. -/
def Bst (t : T) : Prop := (keysT t).Pairwise (fun a b => a < b)
theorem Bst.parts {k : Int} {l r : T} (h : Bst (.node k l r)) : Bst l ∧ Bst r ∧ (∀ y ∈ keysT l, y < k) ∧ (∀ y ∈ keysT r, k < y) := by
  unfold Bst at h
  rw [keysT, List.pairwise_append, List.pairwise_append] at h
  obtain ⟨⟨h1, _, h3⟩, h4, h5⟩ := h
  exact ⟨h1, h4, fun y hy => h3 y hy k (by simp), fun y hy => h5 k (by simp) y hy⟩
/-- Each node ahead of what stands below it. -/
def Topo : T → List Int → Prop
  | .nil, F => F = []
  | .node k l r, F => ∃ F', F = k :: F' ∧ (∀ y ∈ F', y ≠ k) ∧ Topo l (lessL k F') ∧ Topo r (moreL k F')
theorem lessL_app (x : Int) (a b : List Int) : lessL x (a ++ b) = lessL x a ++ lessL x b := List.filter_append ..
theorem moreL_app (x : Int) (a b : List Int) : moreL x (a ++ b) = moreL x a ++ moreL x b := List.filter_append ..
theorem lessL_all {x : Int} {a : List Int} (h : ∀ y ∈ a, y < x) : lessL x a = a ∧ moreL x a = [] :=
  ⟨List.filter_eq_self.2 fun y hy => by simpa using h y hy, List.filter_eq_nil_iff.2 fun y hy => by have := h y hy; simp; omega⟩
theorem moreL_all {x : Int} {a : List Int} (h : ∀ y ∈ a, x < y) : lessL x a = [] ∧ moreL x a = a :=
  ⟨List.filter_eq_nil_iff.2 fun y hy => by have := h y hy; simp; omega, List.filter_eq_self.2 fun y hy => by have := h y hy; simp; omega⟩
theorem told1_perm : ∀ t : T, (told1 t).Perm (keysT t)
  | .nil => List.Perm.refl _
  | .node k l r => by
    rw [told1, keysT]
    refine List.Perm.append ?_ (told1_perm r)
    exact (List.perm_append_comm).trans ((told1_perm l).append_right _)
theorem topo1 : ∀ t : T, Bst t → Topo t (told1 t)
  | .nil, _ => rfl
  | .node k l r, h => by
    obtain ⟨h1, h2, h3, h4⟩ := h.parts
    have g1 : ∀ y ∈ told1 l, y < k := fun y hy => h3 y ((told1_perm l).mem_iff.1 hy)
    have g2 : ∀ y ∈ told1 r, k < y := fun y hy => h4 y ((told1_perm r).mem_iff.1 hy)
    refine ⟨told1 l ++ told1 r, by simp [told1], fun y hy => ?_, ?_, ?_⟩
    · rcases List.mem_append.1 hy with hy | hy
      · have := g1 y hy; omega
      · have := g2 y hy; omega
    · rw [lessL_app, (lessL_all g1).1, (moreL_all g2).1, List.append_nil]; exact topo1 l h1
    · rw [moreL_app, (lessL_all g1).2, (moreL_all g2).2, List.nil_append]; exact topo1 r h2
theorem rowsT_nil : ∀ n, rowsT n [] = []
  | 0 => rfl
  | n + 1 => by simp [rowsT]
theorem rowsT_succ (n : Nat) (ts : List T) : rowsT (n + 1) ts = ts.map T.top ++ rowsT n (ts.flatMap T.kids) := by
  cases ts with
  | nil => simp [rowsT, rowsT_nil]
  | cons t ts => simp [rowsT]
theorem kids_keys (t : T) : ∀ u ∈ t.kids, ∀ y ∈ keysT u, y ∈ keysT t := by
  cases t with
  | nil => intro u h; cases h
  | node k l r =>
    intro u h y hy
    simp only [T.kids, List.mem_append] at h
    simp only [keysT, List.mem_append, List.mem_singleton]
    rcases h with h | h
    · cases l with
      | nil => cases h
      | node a b c => simp at h; subst h; exact .inl (.inl hy)
    · cases r with
      | nil => cases h
      | node a b c => simp at h; subst h; exact .inr hy
theorem top_key (t : T) (h : t.isNode) : t.top ∈ keysT t := by
  cases t with
  | nil => cases h
  | node k l r => simp [T.top, keysT]
theorem rows_parts (x : Int) : ∀ (n : Nat) (A B : List T), (∀ t ∈ A, t.isNode ∧ ∀ y ∈ keysT t, y < x) → (∀ t ∈ B, t.isNode ∧ ∀ y ∈ keysT t, x < y) → lessL x (rowsT n (A ++ B)) = rowsT n A ∧ moreL x (rowsT n (A ++ B)) = rowsT n B
  | 0, A, B, _, _ => ⟨rfl, rfl⟩
  | n + 1, A, B, ha, hb => by
    have ih := rows_parts x n (A.flatMap T.kids) (B.flatMap T.kids)
      (fun u hu => by
        obtain ⟨t, ht, hut⟩ := List.mem_flatMap.1 hu
        exact ⟨T.kids_node t u hut, fun y hy => (ha t ht).2 y (kids_keys t u hut y hy)⟩)
      (fun u hu => by
        obtain ⟨t, ht, hut⟩ := List.mem_flatMap.1 hu
        exact ⟨T.kids_node t u hut, fun y hy => (hb t ht).2 y (kids_keys t u hut y hy)⟩)
    have g1 : ∀ y ∈ A.map T.top, y < x := fun y hy => by
      obtain ⟨t, ht, rfl⟩ := List.mem_map.1 hy
      exact (ha t ht).2 _ (top_key t (ha t ht).1)
    have g2 : ∀ y ∈ B.map T.top, x < y := fun y hy => by
      obtain ⟨t, ht, rfl⟩ := List.mem_map.1 hy
      exact (hb t ht).2 _ (top_key t (hb t ht).1)
    rw [rowsT_succ, rowsT_succ, rowsT_succ, List.map_append, List.flatMap_append, lessL_app, lessL_app, moreL_app, moreL_app, (lessL_all g1).1, (lessL_all g1).2, (moreL_all g2).1, (moreL_all g2).2, ih.1, ih.2]
    simp
theorem rows_ne (x : Int) (n : Nat) (A B : List T) (ha : ∀ t ∈ A, t.isNode ∧ ∀ y ∈ keysT t, y < x) (hb : ∀ t ∈ B, t.isNode ∧ ∀ y ∈ keysT t, x < y) : ∀ y ∈ rowsT n (A ++ B), y ≠ x := by
  have key : ∀ (n : Nat) (ts : List T), (∀ t ∈ ts, t.isNode ∧ ∀ y ∈ keysT t, y ≠ x) → ∀ y ∈ rowsT n ts, y ≠ x := by
    intro n
    induction n with
    | zero => intro ts _ y hy; cases hy
    | succ n ih =>
      intro ts h y hy
      rw [rowsT_succ] at hy
      rcases List.mem_append.1 hy with hy | hy
      · obtain ⟨t, ht, rfl⟩ := List.mem_map.1 hy
        exact (h t ht).2 _ (top_key t (h t ht).1)
      · exact ih _ (fun u hu => by
          obtain ⟨t, ht, hut⟩ := List.mem_flatMap.1 hu
          exact ⟨T.kids_node t u hut, fun y hy => (h t ht).2 y (kids_keys t u hut y hy)⟩) y hy
  refine key n (A ++ B) fun t ht => ?_
  rcases List.mem_append.1 ht with ht | ht
  · exact ⟨(ha t ht).1, fun y hy => by have := (ha t ht).2 y hy; omega⟩
  · exact ⟨(hb t ht).1, fun y hy => by have := (hb t ht).2 y hy; omega⟩
def oneT : T → List T
  | .nil => []
  | .node a b c => [.node a b c]
theorem T.kids_one (k : Int) (l r : T) : T.kids (.node k l r) = oneT l ++ oneT r := by cases l <;> cases r <;> rfl
theorem topo3 : ∀ (t : T) (n : Nat), t.size < n → Bst t → Topo t (rowsT n (oneT t))
  | .nil, n, _, _ => rowsT_nil n
  | .node k l r, 0, h, _ => by omega
  | .node k l r, n + 1, h, hb => by
    obtain ⟨h1, h2, h3, h4⟩ := hb.parts
    simp only [T.size] at h
    have g1 : ∀ t ∈ oneT l, t.isNode ∧ ∀ y ∈ keysT t, y < k := fun t ht => by
      cases l with
      | nil => cases ht
      | node a b c => simp [oneT] at ht; subst ht; exact ⟨trivial, h3⟩
    have g2 : ∀ t ∈ oneT r, t.isNode ∧ ∀ y ∈ keysT t, k < y := fun t ht => by
      cases r with
      | nil => cases ht
      | node a b c => simp [oneT] at ht; subst ht; exact ⟨trivial, h4⟩
    have hp := rows_parts k n (oneT l) (oneT r) g1 g2
    refine ⟨rowsT n (oneT l ++ oneT r), ?_, rows_ne k n _ _ g1 g2, ?_, ?_⟩
    · show rowsT (n + 1) [T.node k l r] = _
      rw [rowsT_succ]
      simp [T.top, T.kids_one]
    · rw [hp.1]; exact topo3 l n (by omega) h1
    · rw [hp.2]; exact topo3 r n (by omega) h2
theorem topo_told3 (t : T) (h : Bst t) : Topo t (told3 t) := by
  cases t with
  | nil => rfl
  | node k l r => exact topo3 (.node k l r) _ (Nat.lt_succ_self _) h
theorem told3_perm (t : T) : (told3 t).Perm (keysT t) := by
  rw [told3_ord, ord3, ← keysT_spots t 0]
  exact (List.mergeSort_perm _ _).map _
end Go.Proofs.Ytnallpdmdhbidaa
namespace Go.Proofs.Ytnallpdmdhbidaa
open Go.ChangeShapes Go.WideShapes Go.ChangeAt Go.RowKit Go.Maps
set_option linter.unusedVariables false
set_option linter.unusedSimpArgs false

def rightG (l : List Int) : Int := if l.length > 200 then 2 else if ¬ keysIn l then 3 else if ¬ l.Nodup then 5 else 0
def seenD (l : List Int) : DataW Unit := l.foldl (fun D x => D.put (.int .i64 x) (.lit (.int .i64 1))) (.map [])
theorem seenD_snoc (l : List Int) (x : Int) : seenD (l ++ [x]) = (seenD l).put (.int .i64 x) (.lit (.int .i64 1)) := by rw [seenD, List.foldl_append]; rfl
theorem seenD_map (l : List Int) : IsMap (seenD l) := by
  have : ∀ (l : List Int) (D : DataW Unit), IsMap D → IsMap (l.foldl (fun D x => D.put (.int .i64 x) (.lit (.int .i64 1))) D) := by
    intro l
    induction l with
    | nil => intro D h; exact h
    | cons x t ih => intro D h; exact ih _ (h.put _ _)
  exact this l _ ⟨[], rfl⟩
theorem seenD_at (l : List Int) (y : Int) : (seenD l).atKey (.int .i64 y) (.lit (.int .i64 0)) = .lit (.int .i64 (if y ∈ l then 1 else 0)) := by
  induction hn : l.length generalizing l with
  | zero =>
    obtain rfl : l = [] := List.eq_nil_of_length_eq_zero hn
    rfl
  | succ n ih =>
    obtain ⟨u, x, rfl⟩ : ∃ u x, l = u ++ [x] := ⟨l.take n, l[n]'(by omega), by rw [← List.take_succ_eq_append_getElem, List.take_of_length_le (by omega)]⟩
    rw [seenD_snoc]
    by_cases hxy : y = x
    · subst hxy
      rw [atKey_put_same (seenD_map u) (show WideAt.IsKeyLit (.int .i64 y) from trivial)]; simp
    · rw [atKey_put_other (by intro e; injection e with _ e; exact hxy e), ih u (by simpa using hn)]
      simp [hxy]
theorem wf_in {n : Int} (h : -9223372036854775808 ≤ n ∧ n ≤ 9223372036854775807) : (Lit.int .i64 n).wf = true := by
  simp [Lit.wf, IntKind.min, IntKind.max, IntKind.signed, IntKind.bits]
  omega
def GrRel (l : List Int) (w : World) (m : Value) (iv : Value) (wr : World) : Prop := ∃ k : Nat, k ≤ l.length ∧ iv = .int .i64 k ∧ wr.ownsMap Try.prog 3 (plainElem (H := Unit) Try.prog 3) w.heap.size k (seenD (l.take k)) ∧ (l.take k).Nodup ∧ Kp w wr
theorem int_law : Keyed Try.prog 3 := int_keyed Try.underlying3
theorem int_zero (w : World) : (zeroValue 3).run Try.prog w = .ok (.int .i64 0) w := by kernel_rfl
set_option maxRecDepth 100000 in
set_option maxHeartbeats 4000000 in
theorem growRight_any (l : List Int) (v : Value) (w : World) (hr : RD w eInt v l) : Calls Try.prog 30 #[v] w (Ret (.int .i64 (rightG l)) w) := by
  obtain ⟨A, c, rfl, hc, hm⟩ := hr.shape
  by_cases hlen : l.length > 200
  · have H1 : Hid (rightG l = 2) := hide (by rw [rightG, if_pos hlen])
    clear hr
    go_enter Try.func30, Try.ntmps30
    go_wp2
    go_ret
    exact ⟨by rw [H1.out]; rfl, Below.refl _ _⟩
  · have HR := hide hr
    have hmm := @run_makeMap Try.prog
    clear hr
    go_enter Try.func30, Try.ntmps30
    go_wp2
    go_loopw [13] (KiRel l w) (fun i wr => l.length - (intOf i).toNat)
    case atStart => exact ⟨0, by omega, rfl, fun j h a => by omega, rfl⟩
    case round =>
      obtain ⟨k, hk, rfl, hall, rfl⟩ := hrel
      have HALL := hide hall
      clear hall
      by_cases hlt : k < l.length
      · obtain ⟨b, o, rfl, hb, c0⟩ := HR.out.int hlt
        obtain ⟨y, hy⟩ : ∃ y, y = l[k] := ⟨_, rfl⟩
        rw [← hy] at c0
        have HY := hide hy
        clear hy
        by_cases h1 : y < 0
        · have H1 : Hid (rightG l = 3) := hide (by rw [rightG, if_neg hlen, if_pos]; intro h; have := h l[k] (List.getElem_mem hlt); rw [← HY.out] at this; omega)
          go_wp2
          go_ret
          exact ⟨by rw [H1.out]; rfl, Below.refl _ _⟩
        · by_cases h2 : 1000000 < y
          · have H1 : Hid (rightG l = 3) := hide (by rw [rightG, if_neg hlen, if_pos]; intro h; have := h l[k] (List.getElem_mem hlt); rw [← HY.out] at this; omega)
            have d1 : decide (y < 0) = false := by simp; omega
            clear h1
            go_wp2
            go_ret
            exact ⟨by rw [H1.out]; rfl, Below.refl _ _⟩
          · have HN : Hid (∀ j (h : j < l.length), j < k + 1 → 0 ≤ l[j] ∧ l[j] ≤ 1000000) := hide (fun j h a => by
              rcases Nat.lt_or_ge j k with h9 | h9
              · exact HALL.out j h h9
              · have : j = k := by omega
                subst this
                rw [← HY.out]; omega)
            have d1 : decide (y < 0) = false := by simp; omega
            have d2 : decide (1000000 < y) = false := by simp; omega
            clear h1 h2
            go_wp2
            go_roundw
            case rel => exact ⟨k + 1, by omega, by go_num, HN.out, rfl⟩
            case measure => simp [intOf]; omega
      · have hki : keysIn l := fun y hy => by
          obtain ⟨j, hj, rfl⟩ := List.getElem_of_mem hy
          exact HALL.out j hj (by omega)
        have hso : rightG l = if ¬ l.Nodup then 5 else 0 := by rw [rightG, if_neg hlen, if_neg (by simpa using hki)]
        have HKI := hide hki
        have HSO := hide hso
        clear hki hso
        go_wp2
        go_loopw [27] (GrRel l w (.map (some w.heap.size))) (fun i wr => l.length - (intOf i).toNat)
        case atStart => exact ⟨0, by omega, rfl, World.ownsMap_made _ _ _ _, by simp, (Kp.refl w).alloc⟩
        case round =>
          obtain ⟨k2, hk2, rfl, hown, hnd, hkp⟩ := hrel
          have HND := hide hnd
          clear hnd
          by_cases hlt2 : k2 < l.length
          · obtain ⟨b, o, rfl, _, c0⟩ := (HR.out.kp hkp).int hlt2
            obtain ⟨y, hy⟩ : ∃ y, y = l[k2] := ⟨_, rfl⟩
            rw [← hy] at c0
            have hyi := HKI.out y (by rw [hy]; exact List.getElem_mem hlt2)
            have hkey : keyOf Try.prog 3 (.int .i64 y) = some (.int .i64 y) := keyOf_int_mk Try.underlying3 (wf_in (by omega))
            have HY := hide hy
            clear hy
            by_cases hin : y ∈ l.take k2
            · have HC : Hid (∀ c : Int, (seenD (l.take k2)).atKey (.int .i64 y) (.lit (.int .i64 0)) = .lit (.int .i64 c) → c = 1) := hide (fun c h => by
                rw [seenD_at, if_pos hin] at h
                injection h with h; injection h with _ h; exact h.symm)
              have H1 : Hid (rightG l = 5) := hide (by
                rw [HSO.out, if_pos]
                intro hn
                obtain ⟨j, hj, he⟩ := List.getElem_of_mem hin
                simp at hj
                rw [List.getElem_take] at he
                rw [HY.out] at he
                exact (List.pairwise_iff_getElem.1 hn) j k2 (by omega) hlt2 (by omega) he)
              clear hin
              go_wp2_with (at_lookup; refine wpList_lookup_own_int _ rfl _ _ 89 rfl 3 3 .i64 int_law Try.underlying89 Try.underlying3 (int_zero _) w.heap.size k2 _ rfl hown _ _ rfl hkey ?_; intro c hat hwc; obtain rfl := HC.out c hat)
              go_ret
              exact ⟨by rw [H1.out]; rfl, hkp.bel⟩
            · have HC : Hid (∀ c : Int, (seenD (l.take k2)).atKey (.int .i64 y) (.lit (.int .i64 0)) = .lit (.int .i64 c) → c = 0) := hide (fun c h => by
                rw [seenD_at, if_neg hin] at h
                injection h with h; injection h with _ h; exact h.symm)
              have HT : Hid (l.take (k2 + 1) = l.take k2 ++ [y]) := hide (by rw [List.take_succ_eq_append_getElem hlt2, HY.out])
              have HN2 : Hid ((l.take (k2 + 1)).Nodup) := hide (by
                rw [HT.out, List.nodup_append]
                refine ⟨HND.out, by simp, fun a ha b hb => ?_⟩
                simp at hb; subst hb
                rintro rfl; exact hin ha)
              clear hin
              go_wp2_with (first
                | (at_lookup; refine wpList_lookup_own_int _ rfl _ _ 89 rfl 3 3 .i64 int_law Try.underlying89 Try.underlying3 (int_zero _) w.heap.size k2 _ rfl hown _ _ rfl hkey ?_; intro c hat hwc; obtain rfl := HC.out c hat)
                | (at_mapUpdate; refine wpList_mapUpdate_own _ rfl _ _ _ 89 rfl 3 3 int_law Try.underlying89 _ w.heap.size k2 _ rfl hown (by unfold maxLen; omega) _ _ _ rfl rfl hkey _ [] (plainElem_int Try.underlying3 (wf_in (by decide))) ?_; intro w1 hown1 hgrow1))
              go_roundw
              case rel => exact ⟨k2 + 1, by omega, by go_num, by rw [HT.out, seenD_snoc]; exact hown1, HN2.out, Below.grown hkp hgrow1 hkp.size (fun j hj => by cases hj; exact Nat.le_refl _)⟩
              case measure => simp [intOf]; omega
          · have H1 : Hid (rightG l = 0) := hide (by
              have := HND.out
              rw [List.take_of_length_le (by omega)] at this
              rw [HSO.out, if_neg (by simpa using this)])
            go_wp2
            go_ret
            exact ⟨by rw [H1.out]; rfl, hkp.bel⟩
end Go.Proofs.Ytnallpdmdhbidaa
