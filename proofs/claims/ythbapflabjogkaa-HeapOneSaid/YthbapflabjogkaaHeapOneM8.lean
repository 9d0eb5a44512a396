/-
  shape.part, shape.Of: what they answer. Conditions: the list reads as l (RD); of part: the variable holds a slice of the call's own (OB).
  shape.Of: what it answers. Conditions: the list reads as l (RD).
  grow.right: what it answers. Conditions: the list reads as l (RD).
  grow.sorted, grow.Sort: what they answer. Conditions: the list reads as l (RD); of sorted: of at most 1000 keys.
-/
import Derived.Test.YthbapflabjogkaaHeapOneM7
import Derived.Maps.OwnOps
import Derived.Maps.Views
import Derived.Test.YthbapflabjogkaaHeapOneM5

namespace Go.Proofs.Ythbapflabjogkaa
open Go.ChangeShapes Go.WideShapes Go.ChangeAt Go.RowKit
set_option linter.unusedVariables false
set_option linter.unusedSimpArgs false

/-- How many at the head of the list are less. -/
def lessN (x : Int) : List Int → Nat
  | [] => 0
  | y :: t => if y < x then lessN x t + 1 else 0
theorem lessN_le (x : Int) : ∀ l : List Int, lessN x l ≤ l.length
  | [] => Nat.le_refl _
  | y :: t => by
    unfold lessN
    have := lessN_le x t
    split <;> simp <;> omega
theorem lessN_lt (x : Int) : ∀ (l : List Int) (j : Nat) (h : j < l.length), j < lessN x l → l[j] < x
  | y :: t, 0, _, h => by
    unfold lessN at h
    split at h
    · assumption
    · omega
  | y :: t, j + 1, hj, h => by
    unfold lessN at h
    split at h
    · exact lessN_lt x t j (by simpa using hj) (by omega)
    · omega
theorem lessN_at (x : Int) : ∀ (l : List Int) (h : lessN x l < l.length), ¬ l[lessN x l] < x
  | y :: t, h => by
    by_cases hy : y < x
    · have e : lessN x (y :: t) = lessN x t + 1 := by rw [lessN, if_pos hy]
      simp only [e] at h ⊢
      simpa using lessN_at x t (by simpa using h)
    · have e : lessN x (y :: t) = 0 := by rw [lessN, if_neg hy]
      simp only [e]
      simpa using hy
theorem lessN_is (x : Int) (l : List Int) (k : Nat) (hk : k ≤ l.length) (h1 : ∀ j (h : j < l.length), j < k → l[j] < x) (h2 : ∀ h : k < l.length, ¬ l[k] < x) : lessN x l = k := by
  rcases Nat.lt_trichotomy (lessN x l) k with h | h | h
  · exact absurd (h1 _ (by omega) h) (lessN_at x l (by omega))
  · exact h
  · exact absurd (lessN_lt x l k (by have := lessN_le x l; omega) h) (h2 (by have := lessN_le x l; omega))
def partF : Nat → List Int → Int → Bool × List IP
  | 0, _, _ => (true, [])
  | _ + 1, [], _ => (true, [])
  | n + 1, x :: t, d =>
    if (t.drop (lessN x t)).any (fun k => decide (k ≤ x)) then (false, [])
    else if (partF n (t.take (lessN x t)) (d + 1)).1 = false then (false, (partF n (t.take (lessN x t)) (d + 1)).2)
    else ((partF n (t.drop (lessN x t)) (d + 1)).1, (partF n (t.take (lessN x t)) (d + 1)).2 ++ [(x, d)] ++ (partF n (t.drop (lessN x t)) (d + 1)).2)
theorem partF_len : ∀ (n : Nat) (l : List Int) (d : Int), (partF n l d).2.length ≤ l.length
  | 0, _, _ => by simp [partF]
  | n + 1, [], _ => by simp [partF]
  | n + 1, x :: t, d => by
    have h0 := lessN_le x t
    have h1 := partF_len n (t.take (lessN x t)) (d + 1)
    have h2 := partF_len n (t.drop (lessN x t)) (d + 1)
    simp only [List.length_take, List.length_drop] at h1 h2
    unfold partF
    split
    · simp
    · split
      · simp; omega
      · simp; omega
theorem take_at_eq (l : List Int) (k : Nat) (h : k ≤ l.length) (hk : 1 ≤ k) : (l.take k).drop 1 = (l.drop 1).take (k - 1) := by
  rw [List.drop_take]
theorem any_drop_false (x : Int) (t : List Int) (n : Nat) (h : ∀ j (hj : j < t.length), n ≤ j → ¬ t[j] ≤ x) : (t.drop n).any (fun k => decide (k ≤ x)) = false := by
  rw [List.any_eq_false]
  intro y hy
  obtain ⟨j, hj, rfl⟩ := List.getElem_of_mem hy
  rw [List.getElem_drop]
  simp at hj
  have := h (n + j) (by omega) (by omega)
  simpa using this
theorem any_drop_true (x : Int) (t : List Int) (n j : Nat) (hj : j < t.length) (hn : n ≤ j) (h : t[j] ≤ x) : (t.drop n).any (fun k => decide (k ≤ x)) = true := by
  rw [List.any_eq_true]
  refine ⟨t[j], ?_, by simpa using h⟩
  rw [List.mem_drop_iff_getElem]
  exact ⟨j - n, by omega, by simp [show n + (j - n) = j from by omega]⟩

theorem partF_l (n : Nat) (l : List Int) (x : Int) (t : List Int) (d : Int) (hl : l = x :: t) (k : Nat) (hk : 1 ≤ k) (hln : lessN x t = k - 1) :
    partF (n + 1) l d = if (l.drop k).any (fun k => decide (k ≤ x)) then (false, []) else if (partF n ((l.take k).drop 1) (d + 1)).1 = false then (false, (partF n ((l.take k).drop 1) (d + 1)).2)
      else ((partF n (l.drop k) (d + 1)).1, (partF n ((l.take k).drop 1) (d + 1)).2 ++ [(x, d)] ++ (partF n (l.drop k) (d + 1)).2) := by
  subst hl
  obtain ⟨k, rfl⟩ : ∃ k', k = k' + 1 := ⟨k - 1, by omega⟩
  rw [partF, hln]
  simp

theorem lo_cut {B b o o2 n c : Nat} {A : Option Addr} {n' c' : Nat} (h : Lo B (.slice (some ⟨b, o, none⟩) n c)) (hA : ∀ ad, A = some ad → ad.block = b) : Lo B (.slice A n' c') := fun k hk => by
  cases A with
  | none => simp [Value.ownBlock] at hk
  | some ad =>
    have := hA ad rfl
    simp [Value.ownBlock] at hk
    subst hk
    exact h _ (by simp [Value.ownBlock, this])
theorem if_blk {p : Prop} [Decidable p] {b o o2 : Nat} {A : Option Addr} (h : (if p then some (⟨b, o, none⟩ : Addr) else some ⟨b, o2, none⟩) = A) : ∀ ad, A = some ad → ad.block = b := by
  intro ad e
  subst e
  split at h <;> (injection h with h; rw [← h])
def PaPost (B g : Nat) (st e : TypeId) (r : Bool × List IP) (acc : List IP) (w : World) (en : Ending) (w' : World) : Prop := en = .returned (.bool r.1) ∧ OB w' B g st e ePair (acc ++ r.2) ∧ KO g B w w'
def Pa1 (l : List Int) (x : Int) (w : World) (nv : Value) (wr : World) : Prop := ∃ k : Nat, 1 ≤ k ∧ k ≤ l.length ∧ nv = .int .i64 k ∧ (∀ j (h : j < l.length), 1 ≤ j → j < k → l[j] < x) ∧ Kp w wr
def Pa2 (l : List Int) (x : Int) (n : Nat) (w : World) (iv : Value) (wr : World) : Prop := ∃ k : Nat, k ≤ l.length - n ∧ iv = .int .i64 k ∧ (∀ j (h : j < l.length), n ≤ j → j < n + k → ¬ l[j] ≤ x) ∧ Kp w wr

end Go.Proofs.Ythbapflabjogkaa
namespace Go.Proofs.Ythbapflabjogkaa
open Go.ChangeShapes Go.WideShapes Go.ChangeAt Go.RowKit
set_option linter.unusedVariables false
set_option linter.unusedSimpArgs false

def keysIn (l : List Int) : Prop := ∀ k ∈ l, 0 ≤ k ∧ k ≤ 1000000
instance (l : List Int) : Decidable (keysIn l) := by unfold keysIn; infer_instance
def shapeOf (l : List Int) : List IP × Int := if l.length > 200 then ([], 2) else if ¬ keysIn l then ([], 3) else if (partF l.length l 0).1 = false then ([], 3) else ((partF l.length l 0).2, 0)
def KiRel (l : List Int) (w : World) (iv : Value) (wr : World) : Prop := ∃ k : Nat, k ≤ l.length ∧ iv = .int .i64 k ∧ (∀ j (h : j < l.length), j < k → 0 ≤ l[j] ∧ l[j] ≤ 1000000) ∧ w = wr
theorem KO.none {g B : Nat} {w w' a : World} (h : KO g B w w') (hk : Kp a w) (hg : a.heap.size ≤ g) (hv : w.cell? ⟨g, 0, none⟩ = some (.slice none 0 0)) : Kp a w' :=
  h.kp hk hg fun v h1 => by
    rw [hv] at h1
    injection h1 with h1
    subst h1
    intro k hk
    simp [Value.ownBlock] at hk

end Go.Proofs.Ythbapflabjogkaa
namespace Go.Proofs.Ythbapflabjogkaa
open Go.ChangeShapes Go.WideShapes Go.ChangeAt Go.RowKit Go.Maps
set_option linter.unusedVariables false
set_option linter.unusedSimpArgs false

def rightG (l : List Int) : Int := if l.length > 200 then 2 else if ¬ keysIn l then 3 else if ¬ l.Nodup then 5 else 0
def seenD (l : List Int) : DataW Unit := l.foldl (fun D x => D.put (.int .i64 x) (.lit (.int .i64 1))) (.map [])
theorem seenD_snoc (l : List Int) (x : Int) : seenD (l ++ [x]) = (seenD l).put (.int .i64 x) (.lit (.int .i64 1)) := by rw [seenD, List.foldl_append]; rfl
theorem seenD_map (l : List Int) : IsMap (seenD l) := by
  have : ∀ (l : List Int) (D : DataW Unit), IsMap D → IsMap (l.foldl (fun D x => D.put (.int .i64 x) (.lit (.int .i64 1))) D) := by
    intro l
    induction l with
    | nil => intro D h; exact h
    | cons x t ih => intro D h; exact ih _ (h.put _ _)
  exact this l _ ⟨[], rfl⟩
theorem seenD_at (l : List Int) (y : Int) : (seenD l).atKey (.int .i64 y) (.lit (.int .i64 0)) = .lit (.int .i64 (if y ∈ l then 1 else 0)) := by
  induction hn : l.length generalizing l with
  | zero =>
    obtain rfl : l = [] := List.eq_nil_of_length_eq_zero hn
    rfl
  | succ n ih =>
    obtain ⟨u, x, rfl⟩ : ∃ u x, l = u ++ [x] := ⟨l.take n, l[n]'(by omega), by rw [← List.take_succ_eq_append_getElem, List.take_of_length_le (by omega)]⟩
    rw [seenD_snoc]
    by_cases hxy : y = x
    · subst hxy
      rw [atKey_put_same (seenD_map u) (show WideAt.IsKeyLit (.int .i64 y) from trivial)]; simp
    · rw [atKey_put_other (by intro e; injection e with _ e; exact hxy e), ih u (by simpa using hn)]
      simp [hxy]
theorem wf_in {n : Int} (h : -9223372036854775808 ≤ n ∧ n ≤ 9223372036854775807) : (Lit.int .i64 n).wf = true := by
  simp [Lit.wf, IntKind.min, IntKind.max, IntKind.signed, IntKind.bits]
  omega
def GrRel (l : List Int) (w : World) (m : Value) (iv : Value) (wr : World) : Prop := ∃ k : Nat, k ≤ l.length ∧ iv = .int .i64 k ∧ wr.ownsMap Try.prog 3 (plainElem (H := Unit) Try.prog 3) w.heap.size k (seenD (l.take k)) ∧ (l.take k).Nodup ∧ Kp w wr
theorem int_law : Keyed Try.prog 3 := int_keyed Try.underlying3
theorem int_zero (w : World) : (zeroValue 3).run Try.prog w = .ok (.int .i64 0) w := by kernel_rfl
set_option maxRecDepth 100000 in
set_option maxHeartbeats 4000000 in
theorem growRight_any (l : List Int) (v : Value) (w : World) (hr : RD w eInt v l) : Calls Try.prog 34 #[v] w (Ret (.int .i64 (rightG l)) w) := by
  obtain ⟨A, c, rfl, hc, hm⟩ := hr.shape
  by_cases hlen : l.length > 200
  · have H1 : Hid (rightG l = 2) := hide (by rw [rightG, if_pos hlen])
    clear hr
    go_enter Try.func34, Try.ntmps34
    go_wp2
    go_ret
    exact ⟨by rw [H1.out]; rfl, Below.refl _ _⟩
  · have HR := hide hr
    have hmm := @run_makeMap Try.prog
    clear hr
    go_enter Try.func34, Try.ntmps34
    go_wp2
    go_loopw [13] (KiRel l w) (fun i wr => l.length - (intOf i).toNat)
    case atStart => exact ⟨0, by omega, rfl, fun j h a => by omega, rfl⟩
    case round =>
      obtain ⟨k, hk, rfl, hall, rfl⟩ := hrel
      have HALL := hide hall
      clear hall
      by_cases hlt : k < l.length
      · obtain ⟨b, o, rfl, hb, c0⟩ := HR.out.int hlt
        obtain ⟨y, hy⟩ : ∃ y, y = l[k] := ⟨_, rfl⟩
        rw [← hy] at c0
        have HY := hide hy
        clear hy
        by_cases h1 : y < 0
        · have H1 : Hid (rightG l = 3) := hide (by rw [rightG, if_neg hlen, if_pos]; intro h; have := h l[k] (List.getElem_mem hlt); rw [← HY.out] at this; omega)
          go_wp2
          go_ret
          exact ⟨by rw [H1.out]; rfl, Below.refl _ _⟩
        · by_cases h2 : 1000000 < y
          · have H1 : Hid (rightG l = 3) := hide (by rw [rightG, if_neg hlen, if_pos]; intro h; have := h l[k] (List.getElem_mem hlt); rw [← HY.out] at this; omega)
            have d1 : decide (y < 0) = false := by simp; omega
            clear h1
            go_wp2
            go_ret
            exact ⟨by rw [H1.out]; rfl, Below.refl _ _⟩
          · have HN : Hid (∀ j (h : j < l.length), j < k + 1 → 0 ≤ l[j] ∧ l[j] ≤ 1000000) := hide (fun j h a => by
              rcases Nat.lt_or_ge j k with h9 | h9
              · exact HALL.out j h h9
              · have : j = k := by omega
                subst this
                rw [← HY.out]; omega)
            have d1 : decide (y < 0) = false := by simp; omega
            have d2 : decide (1000000 < y) = false := by simp; omega
            clear h1 h2
            go_wp2
            go_roundw
            case rel => exact ⟨k + 1, by omega, by go_num, HN.out, rfl⟩
            case measure => simp [intOf]; omega
      · have hki : keysIn l := fun y hy => by
          obtain ⟨j, hj, rfl⟩ := List.getElem_of_mem hy
          exact HALL.out j hj (by omega)
        have hso : rightG l = if ¬ l.Nodup then 5 else 0 := by rw [rightG, if_neg hlen, if_neg (by simpa using hki)]
        have HKI := hide hki
        have HSO := hide hso
        clear hki hso
        go_wp2
        go_loopw [27] (GrRel l w (.map (some w.heap.size))) (fun i wr => l.length - (intOf i).toNat)
        case atStart => exact ⟨0, by omega, rfl, World.ownsMap_made _ _ _ _, by simp, (Kp.refl w).alloc⟩
        case round =>
          obtain ⟨k2, hk2, rfl, hown, hnd, hkp⟩ := hrel
          have HND := hide hnd
          clear hnd
          by_cases hlt2 : k2 < l.length
          · obtain ⟨b, o, rfl, _, c0⟩ := (HR.out.kp hkp).int hlt2
            obtain ⟨y, hy⟩ : ∃ y, y = l[k2] := ⟨_, rfl⟩
            rw [← hy] at c0
            have hyi := HKI.out y (by rw [hy]; exact List.getElem_mem hlt2)
            have hkey : keyOf Try.prog 3 (.int .i64 y) = some (.int .i64 y) := keyOf_int_mk Try.underlying3 (wf_in (by omega))
            have HY := hide hy
            clear hy
            by_cases hin : y ∈ l.take k2
            · have HC : Hid (∀ c : Int, (seenD (l.take k2)).atKey (.int .i64 y) (.lit (.int .i64 0)) = .lit (.int .i64 c) → c = 1) := hide (fun c h => by
                rw [seenD_at, if_pos hin] at h
                injection h with h; injection h with _ h; exact h.symm)
              have H1 : Hid (rightG l = 5) := hide (by
                rw [HSO.out, if_pos]
                intro hn
                obtain ⟨j, hj, he⟩ := List.getElem_of_mem hin
                simp at hj
                rw [List.getElem_take] at he
                rw [HY.out] at he
                exact (List.pairwise_iff_getElem.1 hn) j k2 (by omega) hlt2 (by omega) he)
              clear hin
              go_wp2_with (at_lookup; refine wpList_lookup_own_int _ rfl _ _ 74 rfl 3 3 .i64 int_law Try.underlying74 Try.underlying3 (int_zero _) w.heap.size k2 _ rfl hown _ _ rfl hkey ?_; intro c hat hwc; obtain rfl := HC.out c hat)
              go_ret
              exact ⟨by rw [H1.out]; rfl, hkp.bel⟩
            · have HC : Hid (∀ c : Int, (seenD (l.take k2)).atKey (.int .i64 y) (.lit (.int .i64 0)) = .lit (.int .i64 c) → c = 0) := hide (fun c h => by
                rw [seenD_at, if_neg hin] at h
                injection h with h; injection h with _ h; exact h.symm)
              have HT : Hid (l.take (k2 + 1) = l.take k2 ++ [y]) := hide (by rw [List.take_succ_eq_append_getElem hlt2, HY.out])
              have HN2 : Hid ((l.take (k2 + 1)).Nodup) := hide (by
                rw [HT.out, List.nodup_append]
                refine ⟨HND.out, by simp, fun a ha b hb => ?_⟩
                simp at hb; subst hb
                rintro rfl; exact hin ha)
              clear hin
              go_wp2_with (first
                | (at_lookup; refine wpList_lookup_own_int _ rfl _ _ 74 rfl 3 3 .i64 int_law Try.underlying74 Try.underlying3 (int_zero _) w.heap.size k2 _ rfl hown _ _ rfl hkey ?_; intro c hat hwc; obtain rfl := HC.out c hat)
                | (at_mapUpdate; refine wpList_mapUpdate_own _ rfl _ _ _ 74 rfl 3 3 int_law Try.underlying74 _ w.heap.size k2 _ rfl hown (by unfold maxLen; omega) _ _ _ rfl rfl hkey _ [] (plainElem_int Try.underlying3 (wf_in (by decide))) ?_; intro w1 hown1 hgrow1))
              go_roundw
              case rel => exact ⟨k2 + 1, by omega, by go_num, by rw [HT.out, seenD_snoc]; exact hown1, HN2.out, Below.grown hkp hgrow1 hkp.size (fun j hj => by cases hj; exact Nat.le_refl _)⟩
              case measure => simp [intOf]; omega
          · have H1 : Hid (rightG l = 0) := hide (by
              have := HND.out
              rw [List.take_of_length_le (by omega)] at this
              rw [HSO.out, if_neg (by simpa using this)])
            go_wp2
            go_ret
            exact ⟨by rw [H1.out]; rfl, hkp.bel⟩
end Go.Proofs.Ythbapflabjogkaa
namespace Go.Proofs.Ythbapflabjogkaa
open Go.ChangeShapes Go.WideShapes Go.ChangeAt Go.RowKit
set_option linter.unusedVariables false
set_option linter.unusedSimpArgs false

def sortF : Nat → List Int → List Int × Int
  | 0, l => (l, 0)
  | _ + 1, [] => ([], 0)
  | _ + 1, [x] => ([x], 0)
  | n + 1, x :: y :: t => ((sortF n (lessL x (y :: t))).1 ++ [x] ++ (sortF n (moreL x (y :: t))).1, (sortF n (lessL x (y :: t))).2 + (sortF n (moreL x (y :: t))).2 + ((x :: y :: t).length : Int) - 1)
theorem sortF_one (n : Nat) (l : List Int) (h : l.length < 2) : sortF n l = (l, 0) := by
  match n, l, h with
  | 0, _, _ => rfl
  | _ + 1, [], _ => rfl
  | _ + 1, [x], _ => rfl
theorem sortF_more (n : Nat) (x : Int) (t : List Int) (h : 0 < t.length) : sortF (n + 1) (x :: t) = ((sortF n (lessL x t)).1 ++ [x] ++ (sortF n (moreL x t)).1, (sortF n (lessL x t)).2 + (sortF n (moreL x t)).2 + ((x :: t).length : Int) - 1) := by
  match t, h with
  | y :: t, _ => rfl
theorem sortF_len : ∀ (n : Nat) (l : List Int), (sortF n l).1.length = l.length
  | 0, _ => rfl
  | _ + 1, [] => rfl
  | _ + 1, [x] => rfl
  | n + 1, x :: y :: t => by
    have := parts_len x (y :: t)
    simp only [sortF, List.length_append, sortF_len n, List.length_cons, List.length_nil] at this ⊢
    omega
theorem sortF_cnt : ∀ (n : Nat) (l : List Int), l.length ≤ 1000 → 0 ≤ (sortF n l).2 ∧ (sortF n l).2 ≤ 1000 * (l.length : Int)
  | 0, l, _ => by simp only [sortF]; omega
  | _ + 1, [], _ => by simp [sortF]
  | _ + 1, [x], _ => by simp [sortF]
  | n + 1, x :: y :: t, h => by
    have := parts_len x (y :: t)
    have h1 := sortF_cnt n (lessL x (y :: t)) (by simp only [List.length_cons] at h this; omega)
    have h2 := sortF_cnt n (moreL x (y :: t)) (by simp only [List.length_cons] at h this; omega)
    simp only [sortF, List.length_cons] at h this h1 h2 ⊢
    omega
def SortPost (r : List Int × Int) (w : World) (e : Ending) (w' : World) : Prop := ∃ v, e = .returned (.tuple #[v, .int .i64 r.2]) ∧ OW w' w.heap.size 3 eInt v r.1 ∧ Below w.heap.size w w'
end Go.Proofs.Ythbapflabjogkaa
