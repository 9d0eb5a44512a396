/-
  The heap's tree is the one that grows when keys come by their ranks: the law. No program. Conditions: none.
  heap.Least: what it answers. Conditions: the list reads as l (RD).
  hedgkeep.ok: what it answers. Conditions: the list reads as l (RD).
-/
import Derived.Test.YthbapflabjogkaaHeapOneM18
import Derived.Test.YthbapflabjogkaaHeapOneM21
import Derived.Test.YthbapflabjogkaaHeapOneM22
import Derived.Test.YthbapflabjogkaaHeapOneM26
import Derived.Test.YthbapflabjogkaaHeapOneM20
import Derived.Test.YthbapflabjogkaaHeapOneM3

namespace Go.Proofs.Ythbapflabjogkaa
open Go.ChangeShapes Go.WideShapes Go.ChangeAt Go.RowKit
set_option linter.unusedVariables false
set_option linter.unusedSimpArgs false

theorem heap_keysT (l : List IP) : keysT (heapTree l) = l.map Prod.fst := by
  by_cases h : l = []
  · subst h; rw [heapTree_nil]; rfl
  · have hl := top_lt l h
    rw [heapTree_cons l h, keysT, heap_keysT (l.take (top l)), heap_keysT (l.drop (top l + 1))]
    have e := congrArg (List.map Prod.fst) (show l.take (top l) ++ l[top l] :: l.drop (top l + 1) = l by rw [← List.drop_eq_getElem_cons hl, List.take_append_drop])
    rw [List.map_append, List.map_cons] at e
    rw [List.append_assoc]
    exact e
termination_by l.length
decreasing_by
  · simp; omega
  · simp; omega
theorem filter_filter_comm {α : Type} (p q : α → Bool) (l : List α) : (l.filter p).filter q = (l.filter q).filter p := by
  rw [List.filter_filter, List.filter_filter]
  congr 1
  funext x
  exact Bool.and_comm _ _
theorem heap_topo (n : Nat) : ∀ (l l' : List IP), l.length ≤ n → l.Pairwise (fun a b => a.1 < b.1) → SortedK nk l' → StabEq nk l l' → Topo (heapTree l) (l'.map Prod.fst) := by
  induction n with
  | zero =>
    intro l l' hn _ _ he
    have : l = [] := List.eq_nil_of_length_eq_zero (by omega)
    subst this
    have hl' : l' = [] := List.eq_nil_iff_forall_not_mem.2 fun x hx => by have := (he.mem x).1 hx; cases this
    subst hl'
    rw [heapTree_nil]; rfl
  | succ n ih =>
    intro l l' hn hr hs he
    by_cases h : l = []
    · subst h
      have hl' : l' = [] := List.eq_nil_iff_forall_not_mem.2 fun x hx => by have := (he.mem x).1 hx; cases this
      subst hl'
      rw [heapTree_nil]; rfl
    · have hl := top_lt l h
      have hge := top_ge l h
      have hfi := top_first l h
      rw [heapTree_cons l h]
      obtain ⟨x, hx⟩ : ∃ x, x = l[top l] := ⟨_, rfl⟩
      have hsp : l = l.take (top l) ++ x :: l.drop (top l + 1) := by
        rw [hx, ← List.drop_eq_getElem_cons hl, List.take_append_drop]
      rw [← hx]
      obtain ⟨P, hP⟩ : ∃ P, P = l.take (top l) := ⟨_, rfl⟩
      obtain ⟨Q, hQ⟩ : ∃ Q, Q = l.drop (top l + 1) := ⟨_, rfl⟩
      have hPl : P.length ≤ n := by rw [hP, List.length_take]; omega
      have hQl : Q.length ≤ n := by rw [hQ, List.length_drop]; omega
      have hxy : ∀ y ∈ l, nk x ≤ nk y := fun y hy => by
        obtain ⟨j, hj, rfl⟩ := List.getElem_of_mem hy
        have := hge j hj
        rw [← hx] at this
        unfold nk; omega
      have hPx : ∀ y ∈ P, nk x < nk y := fun y hy => by
        rw [hP] at hy
        obtain ⟨j, hj, rfl⟩ := List.getElem_of_mem hy
        rw [List.getElem_take]
        simp at hj
        have := hfi j (by omega)
        rw [← hx] at this
        unfold nk; omega
      rw [← hP, ← hQ] at hsp
      rw [← hP, ← hQ]
      have hxl : x ∈ l := by rw [hsp]; simp
      rw [hsp, List.pairwise_append, List.pairwise_cons] at hr
      obtain ⟨rP, ⟨rx, rQ⟩, rPQ⟩ := hr
      cases l' with
      | nil => have := (he.mem x).2 hxl; cases this
      | cons y R =>
        have hsy := List.pairwise_cons.1 hs
        have hyl : y ∈ l := (he.mem y).1 (by simp)
        have hky : nk y = nk x := by
          have h1 := hxy y hyl
          have h2 : nk y ≤ nk x := by
            rcases List.mem_cons.1 ((he.mem x).2 hxl) with rfl | h3
            · omega
            · exact hsy.1 x h3
          omega
        have hfx := he (nk x)
        rw [hsp] at hfx
        have hPn : P.filter (fun z => nk z == nk x) = [] := List.filter_eq_nil_iff.2 fun z hz => by have := hPx z hz; simp; omega
        rw [List.filter_append, hPn, List.nil_append, List.filter_cons_of_pos (by simp [hky]), List.filter_cons_of_pos (by simp)] at hfx
        obtain ⟨rfl, _⟩ := List.cons.inj hfx
        have hRm : ∀ z ∈ R, z ∈ P ∨ z ∈ Q := fun z hz => by
          have h1 := (he.mem z).1 (List.mem_cons_of_mem _ hz)
          rw [hsp] at h1
          rcases List.mem_append.1 h1 with h1 | h1
          · exact .inl h1
          · rcases List.mem_cons.1 h1 with rfl | h1
            · exfalso
              -- y once more in R: then y twice in l
              have hc : (R.filter (fun u => u.1 == z.1)) ≠ [] := fun e => by
                have := List.filter_eq_nil_iff.1 e z hz
                simp at this
              have h2 := congrArg (fun L => L.filter (fun u => u.1 == z.1)) (he (nk z))
              rw [hsp, List.filter_append, hPn, List.nil_append, List.filter_cons_of_pos (by simp), List.filter_cons_of_pos (by simp), List.filter_cons_of_pos (by simp), List.filter_cons_of_pos (by simp)] at h2
              have h3 := (List.cons.inj h2).2
              have h4 : (Q.filter (fun u => nk u == nk z)).filter (fun u => u.1 == z.1) = [] := List.filter_eq_nil_iff.2 fun u hu => by
                have := rx u (List.mem_filter.1 hu).1
                simp; omega
              rw [h4] at h3
              have := List.filter_eq_nil_iff.1 h3 z (List.mem_filter.2 ⟨hz, by simp⟩)
              simp at this
            · exact .inr h1
        have hPy : ∀ z ∈ P, z.1 < y.1 := fun z hz => rPQ z hz y (by simp)
        have hne : ∀ z ∈ R.map Prod.fst, z ≠ y.1 := fun z hz => by
          obtain ⟨u, hu, rfl⟩ := List.mem_map.1 hz
          rcases hRm u hu with h1 | h1
          · have := hPy u h1; omega
          · have := rx u h1; omega
        have hfl : lessL y.1 (R.map Prod.fst) = (R.filter (fun u => decide (u.1 < y.1))).map Prod.fst := by
          unfold lessL; rw [List.filter_map]; rfl
        have hfm : moreL y.1 (R.map Prod.fst) = (R.filter (fun u => !decide (u.1 < y.1))).map Prod.fst := by
          unfold moreL; rw [List.filter_map]; rfl
        have hP1 : P.filter (fun u => decide (u.1 < y.1)) = P := List.filter_eq_self.2 fun u hu => by simpa using hPy u hu
        have hP2 : P.filter (fun u => !decide (u.1 < y.1) && !(u.1 == y.1)) = [] := List.filter_eq_nil_iff.2 fun u hu => by have := hPy u hu; simp; omega
        have hQ1 : Q.filter (fun u => decide (u.1 < y.1)) = [] := List.filter_eq_nil_iff.2 fun u hu => by have := rx u hu; simp; omega
        have hQ2 : Q.filter (fun u => !decide (u.1 < y.1) && !(u.1 == y.1)) = Q := List.filter_eq_self.2 fun u hu => by have := rx u hu; simp; omega
        refine ⟨R.map Prod.fst, rfl, hne, ?_, ?_⟩
        · rw [hfl]
          refine ih P _ hPl rP (hsy.2.filter _) fun k => ?_
          have h2 := congrArg (fun L => L.filter (fun u : IP => decide (u.1 < y.1))) (he k)
          rw [filter_filter_comm _ _ (y :: R), filter_filter_comm _ _ l, hsp, List.filter_append, hP1, List.filter_cons_of_neg (by simp), List.filter_cons_of_neg (by simp), hQ1, List.append_nil] at h2
          exact h2
        · have hR2 : R.filter (fun u => !decide (u.1 < y.1) && !(u.1 == y.1)) = R.filter (fun u => !decide (u.1 < y.1)) := List.filter_congr fun u hu => by
            have := hne u.1 (List.mem_map_of_mem hu)
            simp; omega
          rw [hfm, ← hR2]
          refine ih Q _ hQl rQ (hsy.2.filter _) fun k => ?_
          have h2 := congrArg (fun L => L.filter (fun u : IP => !decide (u.1 < y.1) && !(u.1 == y.1))) (he k)
          rw [filter_filter_comm _ _ (y :: R), filter_filter_comm _ _ l, hsp, List.filter_append, hP2, List.filter_cons_of_neg (by simp), List.filter_cons_of_neg (by simp), hQ2, List.nil_append] at h2
          exact h2
theorem heap_one (l l' : List IP) (h : mapRight l = 0) (hs : SortedK nk l') (he : StabEq nk l l') (hlen : l'.length = l.length) : growOf (l'.map Prod.fst) = ((heapTree l).spots 0, 0) := by
  have hl := mapRight_len l h
  have hr : l.Pairwise (fun a b => a.1 < b.1) := List.pairwise_iff_getElem.2 fun i j hi hj hij => mapRight_rise l h i j hi hj hij
  have hb : Bst (heapTree l) := by
    unfold Bst
    rw [heap_keysT, List.pairwise_map]; exact hr
  have hnd : (l.map Prod.fst).Nodup := by
    rw [List.nodup_iff_pairwise_ne, List.pairwise_map]; exact hr.imp fun h => by omega
  have ht := heap_topo l.length l l' (Nat.le_refl _) hr hs he
  have hpl : l'.Perm l := List.perm_iff_count.2 fun x => by
    have e := he (nk x)
    have e1 := List.count_filter (p := fun u => nk u == nk x) (a := x) (l := l') (by simp)
    have e2 := List.count_filter (p := fun u => nk u == nk x) (a := x) (l := l) (by simp)
    rw [← e1, ← e2, e]
  have hp : (l'.map Prod.fst).Perm (keysT (heapTree l)) := by
    rw [heap_keysT]
    exact hpl.map _
  have hk : keysIn (keysT (heapTree l)) := fun k hk => by
    rw [heap_keysT] at hk
    obtain ⟨x, hx, rfl⟩ := List.mem_map.1 hk
    exact mapRight_in l h x hx
  exact grow_topo _ _ hp ht hb (by rw [heapTree_size]; exact hl) hk
end Go.Proofs.Ythbapflabjogkaa
namespace Go.Proofs.Ythbapflabjogkaa
open Go.ChangeShapes Go.WideShapes Go.ChangeAt Go.RowKit
set_option linter.unusedVariables false
set_option linter.unusedSimpArgs false

def iv (l : List Int) (k : Nat) : Int := l.getD k 0
theorem iv_eq (l : List Int) (k : Nat) (h : k < l.length) : iv l k = l[k] := by simp [iv, List.getD_eq_getElem?_getD, List.getElem?_eq_getElem h]
/-- The nearest place ahead of k with a number less than x. -/
def nl (l : List Int) (x : Int) : Nat → Int
  | 0 => -1
  | k + 1 => if iv l k < x then (k : Int) else nl l x k
def leastL (l : List Int) : List Int := (List.range l.length).map fun k => nl l (iv l k) k
theorem nl_lt (l : List Int) (x : Int) : ∀ k, -1 ≤ nl l x k ∧ nl l x k < k
  | 0 => by simp [nl]
  | k + 1 => by
    unfold nl
    split
    · omega
    · have := nl_lt l x k; omega
/-- From j on all are not less: the same one is found. -/
theorem nl_skip (l : List Int) (x : Int) (j : Nat) : ∀ k, j ≤ k → (∀ i, j ≤ i → i < k → ¬ iv l i < x) → nl l x k = nl l x j
  | 0, h, _ => by obtain rfl : j = 0 := by omega
                  rfl
  | k + 1, h, hh => by
    rcases Nat.lt_or_ge k j with h1 | h1
    · obtain rfl : j = k + 1 := by omega
      rfl
    · rw [nl, if_neg (hh k h1 (by omega)), nl_skip l x j k h1 fun i a b => hh i a (by omega)]
theorem nl_between (l : List Int) (x : Int) : ∀ k i : Nat, nl l x k < i → i < k → ¬ iv l i < x
  | 0, i, _, h => by omega
  | k + 1, i, h, hi => by
    unfold nl at h
    split at h
    · omega
    · rcases Nat.lt_or_ge i k with h1 | h1
      · exact nl_between l x k i h h1
      · obtain rfl : i = k := by omega
        assumption
theorem nl_jump (l : List Int) (x : Int) (a : Nat) (h : x ≤ iv l a) : nl l x (a + 1) = nl l x (nl l (iv l a) a + 1).toNat := by
  have h0 := nl_lt l (iv l a) a
  refine nl_skip l x _ _ (by omega) fun i h1 h2 => ?_
  rcases Nat.lt_or_ge i a with h3 | h3
  · have := nl_between l (iv l a) a i (by omega) h3; omega
  · obtain rfl : i = a := by omega
    omega
theorem leastL_len (l : List Int) : (leastL l).length = l.length := by simp [leastL]
theorem leastL_at (l : List Int) (k : Nat) (h : k < l.length) : (leastL l)[k]'(by rw [leastL_len]; exact h) = nl l (iv l k) k := by simp [leastL]

def leastOf (l : List Int) : List Int × Int := if l.length > 200 then ([], 2) else (leastL l, 0)

def LRel (l : List Int) (w : World) (i : Value) (wr : World) : Prop :=
  ∃ k : Nat, k ≤ l.length ∧ i = .int .i64 k ∧ AR wr w.heap.size 3 eInt (part (leastL l) 0 k) ∧ Kp w wr
def LIn (l : List Int) (k : Nat) (w : World) (av : Value) (wr : World) : Prop :=
  ∃ j : Int, av = .int .i64 j ∧ -1 ≤ j ∧ j < k ∧ nl l (iv l k) (j + 1).toNat = nl l (iv l k) k ∧ w = wr

set_option maxRecDepth 100000 in
set_option maxHeartbeats 1000000 in
theorem least_any (l : List Int) (v : Value) (w : World) (hr : RD w eInt v l) : Calls Try.prog 10 #[v] w (Ret2 eInt (leastOf l) w) := by
  obtain ⟨A, c, rfl, hc, hm⟩ := hr.shape
  by_cases hlen : l.length > 200
  · have H1 : Hid (leastOf l = ([], 2)) := hide (by rw [leastOf, if_pos hlen])
    go_enter Try.func10, Try.ntmps10
    go_wp2
    go_ret2
    exact ⟨_, by rw [H1.out]; rfl, by rw [H1.out]; exact RD.nil, Below.refl _ _⟩
  · have H1 : Hid (leastOf l = (leastL l, 0)) := hide (by rw [leastOf, if_neg hlen])
    obtain ⟨C, hC, hmk⟩ := run_mk row_int 0 zero_int l.length (by omega) (by simp [maxLen]; omega)
    have HR := hide hr
    clear hr
    go_enter Try.func10, Try.ntmps10
    go_wp2
    go_loopw [16] (LRel l w) (fun i _ => l.length - (intOf i).toNat)
    case atStart => exact ⟨0, by omega, rfl, by rw [part_zero, leastL_len]; exact AR.made hC, (Kp.refl w).alloc⟩
    case round =>
      obtain ⟨k, hk, rfl, ha, hkp⟩ := hrel
      have HA := hide ha
      clear ha
      by_cases hlt : k < l.length
      · obtain ⟨b, o, rfl, hb, ck⟩ := (HR.out.kp hkp).int hlt
        have hpl : (part (leastL l) 0 k).length = l.length := by rw [part_len _ _ _ (by rw [leastL_len]; omega), leastL_len]
        obtain ⟨x0, y0⟩ : ∃ x, wr.cell? ⟨w.heap.size, k, none⟩ = some x := ⟨_, HA.out.int (by omega)⟩
        have f0 : wr.frozen? ⟨w.heap.size, k, none⟩ = false := HA.out.frozen _
        have hw0 : IntKind.i64.wrap ((k : Int) - 1) = (k : Int) - 1 := IntWalk.i64_in _ (by omega)
        obtain ⟨wo, rfl⟩ : ∃ wo : World, wo = wr := ⟨_, rfl⟩
        go_wp2
        go_loopw [7] (LIn l k wo) (fun a _ => (intOf a + 1).toNat)
        case atStart => exact ⟨(k : Int) - 1, by simp, by omega, by omega, by rw [show ((k : Int) - 1 + 1).toNat = k from by omega], rfl⟩
        case round =>
          clear hw0
          obtain ⟨j, rfl, h1, h2, h3, rfl⟩ := hrel
          have hst : ∀ q : Int, q = nl l (iv l k) k → AR (wo.setCell ⟨w.heap.size, k, none⟩ (.int .i64 q)) w.heap.size 3 eInt (part (leastL l) 0 (k + 1)) := by
            intro q hq
            have h := HA.out.set (k := k) q
            rw [hq, ← leastL_at l k hlt, part_set _ _ k (by rw [leastL_len]; exact hlt)] at h
            rw [hq, ← leastL_at l k hlt]
            exact h
          have HST := hide hst
          clear hst
          by_cases hj : j = -1
          · subst hj
            have hq : Hid ((-1 : Int) = nl l (iv l k) k) := hide (by rw [← h3]; rfl)
            clear h3
            go_wp2
            go_roundw
            case rel => exact ⟨k + 1, by omega, by go_num, HST.out _ hq.out, Kp.setR (Nat.le_refl _) hkp⟩
            case measure => simp [intOf]; omega
          · obtain ⟨a, rfl⟩ : ∃ a : Nat, j = a := ⟨j.toNat, by omega⟩
            rw [show ((a : Int) + 1).toNat = a + 1 from by omega] at h3
            have hak : a < k := by omega
            obtain ⟨b2, o2, e2, _, ca⟩ := (HR.out.kp hkp).int (k := a) (by omega)
            injection e2 with e2
            injection e2 with e3 e4
            subst e3 e4
            have hgt : (-1 : Int) < (a : Int) := by omega
            have hal : (a : Int) < (l.length : Int) := by omega
            by_cases hlta : l[a] < l[k]
            · have hq : Hid ((a : Int) = nl l (iv l k) k) := hide (by rw [← h3, nl, if_pos (by rw [iv_eq l a (by omega), iv_eq l k hlt]; exact hlta)])
              clear h3 hj
              go_wp2
              go_roundw
              case rel => exact ⟨k + 1, by omega, by go_num, HST.out _ hq.out, Kp.setR (Nat.le_refl _) hkp⟩
              case measure => simp [intOf]; omega
            · have hjump := nl_jump l (iv l k) a (by rw [iv_eq l a (by omega), iv_eq l k hlt]; omega)
              have hlt4 := nl_lt l (iv l a) a
              have hq : Hid (nl l (iv l k) (nl l (iv l a) a + 1).toNat = nl l (iv l k) k) := hide (by rw [← hjump, h3])
              have co : wo.cell? ⟨w.heap.size, a, none⟩ = some (.int .i64 (nl l (iv l a) a)) := by
                have h := HA.out.int (k := a) (by omega)
                rw [h]
                have h5 : (part (leastL l) 0 k)[a]'(by omega) = nl l (iv l a) a := by
                  rw [← leastL_at l a (by omega)]
                  exact part_at _ _ k a hak (by rw [leastL_len]; omega)
                rw [h5]
              obtain ⟨q, hqq⟩ : ∃ q, q = nl l (iv l a) a := ⟨_, rfl⟩
              rw [← hqq] at co hlt4
              have HQ := hide hqq
              obtain ⟨g1, g2⟩ := hlt4
              clear h3 hj hjump hqq
              go_wp2
              go_roundw
              case rel => exact ⟨q, rfl, by omega, by omega, by rw [HQ.out]; exact hq.out, rfl⟩
              case measure => simp [intOf]; omega
      · have hkl : k = l.length := by omega
        go_wp2
        go_ret2
        subst hkl
        refine ⟨_, by rw [H1.out]; rfl, ?_, hkp.bel⟩
        have h := HA.out
        rw [show l.length = (leastL l).length from (leastL_len l).symm, part_end] at h
        rw [H1.out, ← leastL_len l]
        exact h.rd (by rw [leastL_len]; unfold maxLen; omega)
end Go.Proofs.Ythbapflabjogkaa
namespace Go.Proofs.Ythbapflabjogkaa
open Go.ChangeShapes Go.WideShapes Go.ChangeAt Go.RowKit
set_option linter.unusedVariables false
set_option linter.unusedSimpArgs false

def okL (l : List Int) : Bool := l.all fun e => e == 0
def OkRel (l : List Int) (w : World) (i : Value) (wr : World) : Prop := ∃ k : Nat, k ≤ l.length ∧ i = .int .i64 k ∧ okL (l.drop k) = okL l ∧ w = wr

set_option maxHeartbeats 400000 in
theorem ok_any (l : List Int) (v : Value) (w : World) (hr : RD w eInt v l) : Calls Try.prog 18 #[v] w fun e w' => e = .returned (.bool (okL l)) ∧ w = w' := by
  obtain ⟨A, c, rfl, hc, hm⟩ := hr.shape
  have HR := hide hr
  clear hr
  go_enter Try.func18, Try.ntmps18
  go_wp2
  go_loopw [7] (OkRel l w) (fun i _ => l.length - (intOf i).toNat)
  case atStart => exact ⟨0, by omega, rfl, rfl, rfl⟩
  case round =>
    obtain ⟨k, hk, rfl, hok, rfl⟩ := hrel
    have HO := hide hok
    clear hok
    by_cases hlt : k < l.length
    · obtain ⟨b, o, rfl, hb, c0⟩ := HR.out.int hlt
      have hd : Hid (okL (l.drop k) = (l[k] == 0 && okL (l.drop (k + 1)))) := hide (by rw [List.drop_eq_getElem_cons hlt]; rfl)
      by_cases h0 : l[k] = 0
      · have hn : (l[k] != 0) = false := by simp [h0]
        have hst : Hid (okL (l.drop (k + 1)) = okL l) := hide (by rw [← HO.out, hd.out, h0]; rfl)
        clear h0
        go_wp2
        go_roundw
        case rel => exact ⟨k + 1, by omega, by go_num, hst.out, rfl⟩
        case measure => simp [intOf]; omega
      · have hn : (l[k] != 0) = true := by simp [h0]
        have hst : Hid (okL l = false) := hide (by rw [← HO.out, hd.out]; simp [h0])
        clear h0
        go_wp2
        go_ret
        exact ⟨by rw [hst.out]; rfl, rfl⟩
    · have hst : Hid (okL l = true) := hide (by rw [← HO.out, List.drop_of_length_le (by omega)]; rfl)
      go_wp2
      go_ret
      exact ⟨by rw [hst.out]; rfl, rfl⟩
end Go.Proofs.Ythbapflabjogkaa
