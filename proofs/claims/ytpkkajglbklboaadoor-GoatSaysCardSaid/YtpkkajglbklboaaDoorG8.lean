/-
  Plain laws: what shape.parents makes of the spots of a tree of places. No program. Conditions: none.
  shape.Check, shape.Order (but for way 3), shape.Sum: what they answer. Conditions: the list reads as l (RD).
  Plain laws: what is told node first makes the tree again, and each list that makes a tree is told so. No program. Conditions: none.
  Plain laws: keys, places, spots of a tree that is written (MT). No program. Conditions: none.
  Plain laws: the tree that keys make one by one: its spots are a right tree; keys and comparisons of the sort by parts. No program. Conditions: none.
-/
import Derived.Test.YtpkkajglbklboaaDoorG7
import Derived.Test.YtpkkajglbklboaaDoorG4
import Derived.Test.YtpkkajglbklboaaDoorG3

namespace Go.Proofs.YtpkkajglbklboaaDoor
open Go.ChangeShapes Go.WideShapes Go.ChangeAt Go.RowKit
set_option linter.unusedVariables false
set_option linter.unusedSimpArgs false

theorem PT.deps_ge : ∀ (t : PT) (d : Int), ∀ e ∈ t.deps d, d ≤ e
  | .nil, d, e, h => by simp [deps] at h
  | .node p l r, d, e, h => by
    simp only [deps, List.mem_append, List.mem_singleton] at h
    rcases h with (h | rfl) | h
    · have := deps_ge l (d + 1) e h; omega
    · omega
    · have := deps_ge r (d + 1) e h; omega
theorem PT.deps_node (p : Nat) (l r : PT) (d : Int) (j : Nat) : ((PT.node p l r).deps d)[j]? = if j < l.size then (l.deps (d + 1))[j]? else if j = l.size then some d else (r.deps (d + 1))[j - (l.size + 1)]? := by
  have h := PT.deps_len l (d + 1)
  simp only [deps, List.append_assoc]
  rcases Nat.lt_trichotomy j l.size with hj | hj | hj
  · rw [if_pos hj, List.getElem?_append_left (by omega)]
  · rw [if_neg (by omega), if_pos hj, List.getElem?_append_right (by omega), h, hj, Nat.sub_self]; rfl
  · rw [if_neg (by omega), if_neg (by omega), List.getElem?_append_right (by omega), h, show j - l.size = (j - (l.size + 1)) + 1 from by omega]; rfl
theorem PT.pars_node (p : Nat) (l r : PT) (u : Int) (j : Nat) : ((PT.node p l r).pars u)[j]? = if j < l.size then (l.pars p)[j]? else if j = l.size then some u else (r.pars p)[j - (l.size + 1)]? := by
  have h := PT.pars_len l (p : Int)
  simp only [pars, List.append_assoc]
  rcases Nat.lt_trichotomy j l.size with hj | hj | hj
  · rw [if_pos hj, List.getElem?_append_left (by omega)]
  · rw [if_neg (by omega), if_pos hj, List.getElem?_append_right (by omega), h, hj, Nat.sub_self]; rfl
  · rw [if_neg (by omega), if_neg (by omega), List.getElem?_append_right (by omega), h, show j - l.size = (j - (l.size + 1)) + 1 from by omega]; rfl

theorem topF_stay (l : List IP) (p : Nat) : ∀ n k, (∀ j, k ≤ j → j < k + n → gv l p < gv l j) → topF l n k p true = (p, true)
  | 0, _, _ => rfl
  | n + 1, k, h => by
    have := h k (by omega) (by omega)
    rw [topF, if_neg (by omega), if_neg (by omega)]
    exact topF_stay l p n (k + 1) fun j a b => h j (by omega) (by omega)
theorem topF_find (l : List IP) (p : Nat) : ∀ n k a al, k ≤ p → p < k + n → gv l p < gv l a → (∀ j, k ≤ j → j < k + n → j ≠ p → gv l p < gv l j) → topF l n k a al = (p, true)
  | 0, k, a, al, h1, h2, _, _ => by omega
  | n + 1, k, a, al, h1, h2, h3, h4 => by
    by_cases hkp : k = p
    · subst hkp
      rw [topF, if_pos h3]
      exact topF_stay l k n (k + 1) fun j a b => h4 j (by omega) (by omega) (by omega)
    · have hk := h4 k (by omega) (by omega) hkp
      rw [topF]
      split
      · exact topF_find l p n (k + 1) k true (by omega) (by omega) hk fun j a b c => h4 j (by omega) (by omega) c
      · split
        · exact topF_find l p n (k + 1) a false (by omega) (by omega) h3 fun j a b c => h4 j (by omega) (by omega) c
        · exact topF_find l p n (k + 1) a al (by omega) (by omega) h3 fun j a b c => h4 j (by omega) (by omega) c
theorem topS_find (l : List IP) (lo hi p : Nat) (h1 : lo ≤ p) (h2 : p < hi) (h : ∀ j, lo ≤ j → j < hi → j ≠ p → gv l p < gv l j) : topS l lo hi = (p, true) := by
  unfold topS
  by_cases hp : lo = p
  · subst hp
    exact topF_stay l lo _ _ fun j a b => h j (by omega) (by omega) (by omega)
  · exact topF_find l p _ _ _ _ (by omega) (by omega) (h lo (by omega) (by omega) hp) fun j a b c => h j (by omega) (by omega) c
/-- The spots of a tree of places make that tree again. -/
theorem ptR_of (l : List IP) : ∀ (t : PT) (lo hi : Nat) (d : Int), t.At lo → hi = lo + t.size → (∀ j, j < t.size → some (gv l (lo + j)) = (t.deps d)[j]?) → ptR l lo hi d = some t
  | .nil, lo, hi, d, _, h, _ => ptR_nil l lo hi d (by simp [PT.size] at h; omega)
  | .node p a b, lo, hi, d, ⟨hp, ha, hb⟩, h, hg => by
    simp only [PT.size] at h hg
    have hgp : gv l p = d := by
      have := hg a.size (by omega)
      rw [PT.deps_node, if_neg (by omega), if_pos rfl, ← hp] at this
      exact Option.some.inj this
    have hga : ∀ j, j < a.size → some (gv l (lo + j)) = (a.deps (d + 1))[j]? := fun j hj => by
      have := hg j (by omega)
      rwa [PT.deps_node, if_pos hj] at this
    have hgb : ∀ j, j < b.size → some (gv l (p + 1 + j)) = (b.deps (d + 1))[j]? := fun j hj => by
      have := hg (a.size + 1 + j) (by omega)
      rw [PT.deps_node, if_neg (by omega), if_neg (by omega), show a.size + 1 + j - (a.size + 1) = j from by omega, show lo + (a.size + 1 + j) = p + 1 + j from by omega] at this
      exact this
    have ht : topS l lo hi = (p, true) := topS_find l lo hi p (by omega) (by omega) fun j h1 h2 h3 => by
      rw [hgp]
      rcases Nat.lt_or_ge j p with hj | hj
      · have := hga (j - lo) (by omega)
        rw [show lo + (j - lo) = j from by omega] at this
        have := PT.deps_ge a (d + 1) _ (List.mem_of_getElem? this.symm)
        omega
      · have := hgb (j - (p + 1)) (by omega)
        rw [show p + 1 + (j - (p + 1)) = j from by omega] at this
        have := PT.deps_ge b (d + 1) _ (List.mem_of_getElem? this.symm)
        omega
    rw [ptR_node l lo hi d (by omega) p ht hgp, ptR_of l a lo p (d + 1) ha hp hga, ptR_of l b (p + 1) hi (d + 1) hb (by omega) hgb]
/-- And what is made is a tree of places with these depths. -/
theorem ptR_to (l : List IP) (lo hi : Nat) (d : Int) (t : PT) (hlh : lo ≤ hi) (h : ptR l lo hi d = some t) : t.At lo ∧ t.size = hi - lo ∧ ∀ j, j < t.size → some (gv l (lo + j)) = (t.deps d)[j]? := by
  by_cases h0 : lo < hi
  · have ht := topS_in l lo hi h0
    by_cases h1 : (topS l lo hi).2 = true ∧ gv l (topS l lo hi).1 = d
    · rw [ptR_node l lo hi d h0 (topS l lo hi).1 (by rw [← h1.1]) h1.2] at h
      cases ha : ptR l lo (topS l lo hi).1 (d + 1) with
      | none => rw [ha] at h; simp at h
      | some a =>
        cases hb : ptR l ((topS l lo hi).1 + 1) hi (d + 1) with
        | none => rw [ha, hb] at h; simp at h
        | some b =>
          rw [ha, hb] at h
          simp only [Option.some.injEq] at h
          subst h
          obtain ⟨h2, h3, h4⟩ := ptR_to l lo (topS l lo hi).1 (d + 1) a ht.1 ha
          obtain ⟨h5, h6, h7⟩ := ptR_to l ((topS l lo hi).1 + 1) hi (d + 1) b (by omega) hb
          refine ⟨⟨by omega, h2, h5⟩, by simp only [PT.size]; omega, fun j hj => ?_⟩
          simp only [PT.size] at hj
          rw [PT.deps_node]
          split
          · exact h4 j (by omega)
          · split
            · rw [show lo + j = (topS l lo hi).1 from by omega, h1.2]
            · have := h7 (j - (a.size + 1)) (by omega)
              rwa [show (topS l lo hi).1 + 1 + (j - (a.size + 1)) = lo + j from by omega] at this
    · rw [ptR_none l lo hi d h0 h1] at h
      cases h
  · rw [ptR_nil l lo hi d h0] at h
    injection h with h
    subst h
    exact ⟨trivial, by simp [PT.size]; omega, fun j hj => by simp [PT.size] at hj⟩
termination_by hi - lo

/-- A map's keys with the depths of a tree of places. -/
theorem parOf_tree (l : List IP) (t : PT) (hm : mapRight l = 0) (ha : t.At 0) (hs : t.size = l.length) (hd : ∀ j, j < l.length → some (gv l j) = (t.deps 0)[j]?) : parOf l = (t.pars (-1), 0) := by
  rw [parOf, if_neg (by simp [hm]), ptR_of l t 0 l.length 0 ha (by omega) (fun j hj => by rw [Nat.zero_add]; exact hd j (by omega))]
theorem zip_keys (l : List IP) (ds : List Int) (h : ds.length = l.length) : (List.zipWith (fun (p : IP) (e : Int) => ((p.1, e) : IP)) l ds).map Prod.fst = l.map Prod.fst := by
  apply List.ext_getElem
  · simp [h]
  · intro i h1 h2; simp
theorem zip_gv (l : List IP) (ds : List Int) (h : ds.length = l.length) (j : Nat) (hj : j < l.length) : some (gv (List.zipWith (fun (p : IP) (e : Int) => ((p.1, e) : IP)) l ds) j) = ds[j]? := by
  rw [gv_eq _ j (by simp; omega), List.getElem?_eq_getElem (by omega)]
  simp
theorem parOf_zip (l : List IP) (t : PT) (hm : mapRight l = 0) (ha : t.At 0) (hs : t.size = l.length) : parOf (List.zipWith (fun (p : IP) (e : Int) => ((p.1, e) : IP)) l (t.deps 0)) = (t.pars (-1), 0) := by
  have hdl := PT.deps_len t 0
  have hl : (List.zipWith (fun (p : IP) (e : Int) => ((p.1, e) : IP)) l (t.deps 0)).length = l.length := by simp; omega
  refine parOf_tree _ t (by rw [mapRight_keys _ l (zip_keys l _ (by omega)), hm]) ha (by omega) fun j hj => zip_gv l _ (by omega) j (by omega)
theorem parOf_len (l : List IP) (h : (parOf l).2 = 0) : l.length ≤ 200 ∧ mapRight l = 0 ∧ ∃ t, ptR l 0 l.length 0 = some t ∧ parOf l = (t.pars (-1), 0) := by
  unfold parOf at h
  by_cases h0 : mapRight l = 0
  · rw [if_neg (by simp [h0])] at h
    cases ht : ptR l 0 l.length 0 with
    | none => rw [ht] at h; simp at h
    | some t => exact ⟨mapRight_len l h0, h0, t, rfl, by rw [parOf, if_neg (by simp [h0]), ht]⟩
  · rw [if_pos h0] at h
    exact absurd h h0
end Go.Proofs.YtpkkajglbklboaaDoor
namespace Go.Proofs.YtpkkajglbklboaaDoor
open Go.ChangeShapes Go.WideShapes Go.ChangeAt Go.RowKit
set_option linter.unusedVariables false
set_option linter.unusedSimpArgs false

theorem PT.deps_lt : ∀ (t : PT) (d : Int), ∀ e ∈ t.deps d, e < d + t.size
  | .nil, d, e, h => by simp [deps] at h
  | .node p l r, d, e, h => by
    simp only [deps, List.mem_append, List.mem_singleton] at h
    simp only [size]
    rcases h with (h | rfl) | h
    · have := deps_lt l (d + 1) e h; omega
    · omega
    · have := deps_lt r (d + 1) e h; omega
theorem gv_bound (l : List IP) (h : (parOf l).2 = 0) (k : Nat) (hk : k < l.length) : 0 ≤ l[k].2 ∧ l[k].2 < 200 := by
  obtain ⟨h1, h2, t, ht, _⟩ := parOf_len l h
  obtain ⟨h3, h4, h5⟩ := ptR_to l 0 l.length 0 t (by omega) ht
  have h6 := h5 k (by omega)
  rw [Nat.zero_add, gv_eq l k hk] at h6
  have h7 := List.mem_of_getElem? h6.symm
  have := PT.deps_ge t 0 _ h7
  have := PT.deps_lt t 0 _ h7
  omega
set_option maxHeartbeats 1000000 in
theorem shapeCheck_any (l : List IP) (v : Value) (w : World) (hr : RD w ePair v l) : Calls Tryd.prog 21 #[v] w (Ret (.int .i64 (parOf l).2) w) := by
  have HR := hide hr
  have HRD := hide (fun W v h => read_any l v W h)
  obtain ⟨P, hP⟩ : ∃ P, P = parOf l := ⟨_, rfl⟩
  rw [← hP] at HRD ⊢
  obtain ⟨a, r⟩ := P
  clear hr hP
  go_enter Tryd.func21, Tryd.ntmps21
  go_wp2_with fail
  with_reducible refine (HRD.out _ _ HR.out).mono ?_
  rintro e w1 ⟨v1, rfl, hr1, hb1⟩
  obtain ⟨A1, c1, rfl, _, _⟩ := hr1.shape
  clear hr1
  go_wp2
  go_ret
  exact ⟨rfl, hb1⟩
def mostL (l : List IP) : Int := l.foldl (fun m p => max m p.2) (-1)
def allL (l : List IP) : Int := (l.map Prod.snd).sum
def sumOf (l : List IP) : Int × Int × Int := if (parOf l).2 ≠ 0 then (0, 0, (parOf l).2) else (mostL l, allL l, 0)
theorem mostL_snoc (l : List IP) (k : Nat) (h : k < l.length) : mostL (l.take (k + 1)) = max (mostL (l.take k)) l[k].2 := by
  rw [List.take_succ_eq_append_getElem h, mostL, List.foldl_append]; rfl
theorem allL_snoc (l : List IP) (k : Nat) (h : k < l.length) : allL (l.take (k + 1)) = allL (l.take k) + l[k].2 := by
  rw [List.take_succ_eq_append_getElem h, allL, List.map_append, List.sum_append]; simp [allL]
def SmRel (l : List IP) (w : World) (mv av iv : Value) (wr : World) : Prop :=
  ∃ k : Nat, k ≤ l.length ∧ iv = .int .i64 k ∧ mv = .int .i64 (mostL (l.take k)) ∧ av = .int .i64 (allL (l.take k)) ∧ 0 ≤ allL (l.take k) ∧ allL (l.take k) ≤ 200 * (k : Int) ∧ Kp w wr
set_option maxRecDepth 100000 in
set_option maxHeartbeats 4000000 in
theorem sum_any (l : List IP) (v : Value) (w : World) (hr : RD w ePair v l) : Calls Tryd.prog 25 #[v] w (Ret (.tuple #[.int .i64 (sumOf l).1, .int .i64 (sumOf l).2.1, .int .i64 (sumOf l).2.2]) w) := by
  obtain ⟨A, c, rfl, hc, hm⟩ := hr.shape
  have HR := hide hr
  have HCK := hide (fun W v h => shapeCheck_any l v W h)
  clear hr
  by_cases h0 : (parOf l).2 = 0
  · obtain ⟨hlen, _⟩ := parOf_len l h0
    rw [h0] at HCK
    have H1 : Hid (sumOf l = (mostL l, allL l, 0)) := hide (by rw [sumOf, if_neg (by simp [h0])])
    have HGB := hide (gv_bound l h0)
    clear h0
    go_enter Tryd.func25, Tryd.ntmps25
    go_wp2_with fail
    with_reducible refine (HCK.out _ _ HR.out).mono ?_
    rintro e w1 ⟨rfl, hb1⟩
    have HK1 := hide (Kp.of hb1)
    clear hb1
    go_wp2
    go_loopw [6, 7, 17] (SmRel l w) (fun _ _ i _ => l.length - (intOf i).toNat)
    case atStart => exact ⟨0, by omega, rfl, rfl, rfl, by simp [allL], by simp [allL], HK1.out⟩
    case round =>
      obtain ⟨k, hk, rfl, rfl, rfl, ha0, ha1, hkp⟩ := hrel
      by_cases hlt : k < l.length
      · obtain ⟨b, o, rfl, _, c0, c1⟩ := (HR.out.kp hkp).pair hlt
        obtain ⟨g1, g2⟩ := HGB.out k hlt
        have hm1 := mostL_snoc l k hlt
        have hs1 := allL_snoc l k hlt
        obtain ⟨M, hM⟩ : ∃ M, M = mostL (l.take k) := ⟨_, rfl⟩
        obtain ⟨S, hS⟩ : ∃ S, S = allL (l.take k) := ⟨_, rfl⟩
        rw [← hM] at hm1 ⊢
        rw [← hS] at hs1 ha0 ha1 ⊢
        have HM := hide hm1
        have HS := hide hs1
        obtain ⟨d, hd⟩ : ∃ d, d = l[k].2 := ⟨_, rfl⟩
        rw [← hd] at c1 g1 g2 HM HS
        have hwr : IntKind.i64.wrap (S + d) = S + d := IntWalk.i64_in _ (by omega)
        clear hm1 hs1 hM hS hd
        go_wp2_with fail
        go_quiet (fail)
        go_wp2
        go_roundw
        case rel => exact ⟨k + 1, by omega, by go_num, by rw [HM.out]; congr 1; rw [Int.max_def]; split <;> split <;> omega, by rw [HS.out], by rw [HS.out]; omega, by rw [HS.out]; omega, (by (focus ((repeat (first | (with_reducible assumption) | (with_reducible exact Kp.refl _) | (with_reducible apply Kp.drew) | (with_reducible apply Kp.drewN) | ((with_reducible apply Kp.setR); (focus (first | (with_reducible assumption) | (simp; done) | (simp; omega)))) | (with_reducible apply Kp.alloc) | ((with_reducible apply Kp.call); (with_reducible assumption)) | ((with_reducible apply Kp.app); (with_reducible assumption)))); done)))⟩
        case measure => simp [intOf]; omega
      · have hS : Hid (l.take k = l) := hide (List.take_of_length_le (by omega))
        go_wp2
        go_ret3
        exact ⟨by rw [H1.out, hS.out]; rfl, hkp.bel⟩
  · have H1 : Hid (sumOf l = (0, 0, (parOf l).2)) := hide (by rw [sumOf, if_pos h0])
    obtain ⟨r, hr⟩ : ∃ r, r = (parOf l).2 := ⟨_, rfl⟩
    rw [← hr] at HCK H1 h0
    have hne : (r != 0) = true := by simp [h0]
    clear h0 hr
    go_enter Tryd.func25, Tryd.ntmps25
    go_wp2_with fail
    with_reducible refine (HCK.out _ _ HR.out).mono ?_
    rintro e w1 ⟨rfl, hb1⟩
    go_wp2
    go_ret3
    exact ⟨by rw [H1.out]; rfl, hb1⟩
end Go.Proofs.YtpkkajglbklboaaDoor
namespace Go.Proofs.YtpkkajglbklboaaDoor
open Go.ChangeShapes Go.WideShapes Go.ChangeAt Go.RowKit
set_option linter.unusedVariables false
set_option linter.unusedSimpArgs false

theorem mapRight_of (l : List IP) (h1 : l.length ≤ 200) (h2 : l.Pairwise (fun a b => a.1 < b.1)) (h3 : ∀ x ∈ l, 0 ≤ x.1 ∧ x.1 ≤ 1000000) : mapRight l = 0 := by
  rw [mapRight, if_neg (by omega)]
  have : ∀ (l : List IP) (last : Int), l.Pairwise (fun a b => a.1 < b.1) → (∀ x ∈ l, last < x.1 ∧ x.1 ≤ 1000000) → mrFrom last l = 0 := by
    intro l
    induction l with
    | nil => intro _ _ _; rfl
    | cons p t ih =>
      intro last hr hb
      have hp := hb p (by simp)
      rw [List.pairwise_cons] at hr
      rw [mrFrom, if_pos ((btw_iff _ _ _).2 ⟨by omega, hp.2⟩)]
      exact ih p.1 hr.2 fun x hx => ⟨hr.1 x hx, (hb x (by simp [hx])).2⟩
  exact this l (-1) h2 fun x hx => ⟨by have := (h3 x hx).1; omega, (h3 x hx).2⟩
theorem walkF_mem (l : List IP) (last : Bool) (lo hi : Nat) : ∀ x ∈ walkF l last lo hi, ∃ k, lo ≤ k ∧ k < hi ∧ x = gk l k := by
  by_cases h : lo < hi
  · have ht := topS_in l lo hi h
    have h1 := walkF_mem l last lo (topS l lo hi).1
    have h2 := walkF_mem l last ((topS l lo hi).1 + 1) hi
    intro x hx
    have : x = gk l (topS l lo hi).1 ∨ x ∈ walkF l last lo (topS l lo hi).1 ∨ x ∈ walkF l last ((topS l lo hi).1 + 1) hi := by
      cases last
      · rw [walkF_first l lo hi h] at hx; simpa [or_assoc] using hx
      · rw [walkF_last l lo hi h] at hx
        simp only [List.mem_append, List.mem_singleton] at hx
        rcases hx with (hx | hx) | hx
        · exact .inr (.inl hx)
        · exact .inr (.inr hx)
        · exact .inl hx
    rcases this with rfl | hx | hx
    · exact ⟨_, ht.1, ht.2, rfl⟩
    · obtain ⟨k, a, b, c⟩ := h1 x hx; exact ⟨k, a, by omega, c⟩
    · obtain ⟨k, a, b, c⟩ := h2 x hx; exact ⟨k, by omega, b, c⟩
  · rw [walkF_nil l last lo hi h]; simp
termination_by hi - lo
theorem lessN_append (x : Int) (a b : List Int) (ha : ∀ y ∈ a, y < x) (hb : ∀ y ∈ b, x < y) : lessN x (a ++ b) = a.length := by
  refine lessN_is x (a ++ b) a.length (by simp) (fun j h hj => ?_) (fun h => ?_)
  · rw [List.getElem_append_left hj]; exact ha _ (List.getElem_mem _)
  · rw [List.getElem_append_right (Nat.le_refl _)]
    have := hb _ (List.getElem_mem (by simp at h ⊢; omega : a.length - a.length < b.length))
    omega
/-- Of a tree: what is told node first is parted again. -/
theorem part_walk (l : List IP) (hr : ∀ i j (hi : i < l.length) (hj : j < l.length), i < j → l[i].1 < l[j].1) (n : Nat) : ∀ (lo hi : Nat) (d : Int) (t : PT), hi - lo ≤ n → lo ≤ hi → hi ≤ l.length → ptR l lo hi d = some t → partF n (walkF l false lo hi) d = (true, (l.take hi).drop lo) := by
  induction n with
  | zero =>
    intro lo hi d t h1 h2 h3 ht
    obtain rfl : lo = hi := by omega
    rw [walkF_nil l false lo lo (by omega)]
    simp [partF]
  | succ n ih =>
    intro lo hi d t h1 h2 h3 ht
    by_cases hlt : lo < hi
    · have htin := topS_in l lo hi hlt
      by_cases hok : (topS l lo hi).2 = true ∧ gv l (topS l lo hi).1 = d
      · obtain ⟨at_, hat⟩ : ∃ a, a = (topS l lo hi).1 := ⟨_, rfl⟩
        have htop : topS l lo hi = (at_, true) := by rw [hat, ← hok.1]
        have hgd : gv l at_ = d := by rw [hat]; exact hok.2
        rw [ptR_node l lo hi d hlt at_ htop hgd] at ht
        have hw := walkF_first l lo hi hlt
        rw [← hat] at hw htin
        cases ha : ptR l lo at_ (d + 1) with
        | none => rw [ha] at ht; simp at ht
        | some ta =>
          cases hb : ptR l (at_ + 1) hi (d + 1) with
          | none => rw [ha, hb] at ht; simp at ht
          | some tb =>
            have ia := ih lo at_ (d + 1) ta (by omega) htin.1 (by omega) ha
            have ib := ih (at_ + 1) hi (d + 1) tb (by omega) (by omega) h3 hb
            have hatl : at_ < l.length := by omega
            have hgk : gk l at_ = l[at_].1 := gk_eq l at_ hatl
            have hA : ∀ y ∈ walkF l false lo at_, y < gk l at_ := fun y hy => by
              obtain ⟨k, a, b, rfl⟩ := walkF_mem l false lo at_ y hy
              rw [gk_eq l k (by omega), hgk]
              exact hr k at_ (by omega) hatl b
            have hB : ∀ y ∈ walkF l false (at_ + 1) hi, gk l at_ < y := fun y hy => by
              obtain ⟨k, a, b, rfl⟩ := walkF_mem l false (at_ + 1) hi y hy
              rw [gk_eq l k (by omega), hgk]
              exact hr at_ k hatl (by omega) (by omega)
            have hless := lessN_append (gk l at_) _ _ hA hB
            rw [hw, List.append_assoc, List.singleton_append, partF, hless, List.take_left' rfl, List.drop_left' rfl, ia, ib, if_neg, if_neg (by simp)]
            · rw [seg_split l lo at_ hi htin.1 htin.2 h3]
              have : ((gk l at_, d) : IP) = l[at_] := Prod.ext hgk (by rw [← hgd]; exact gv_eq l at_ hatl)
              rw [this]
            · simp only [Bool.not_eq_true, List.any_eq_false, decide_eq_true_eq]
              intro y hy
              have := hB y hy; omega
      · rw [ptR_none l lo hi d hlt hok] at ht; cases ht
    · rw [walkF_nil l false lo hi hlt]
      obtain rfl : lo = hi := by omega
      simp [partF]
theorem partF_mem : ∀ (n : Nat) (l : List Int) (d : Int), ∀ p ∈ (partF n l d).2, p.1 ∈ l ∧ d ≤ p.2
  | 0, _, _, p, h => by simp [partF] at h
  | n + 1, [], _, p, h => by simp [partF] at h
  | n + 1, x :: t, d, p, h => by
    have ha := partF_mem n (t.take (lessN x t)) (d + 1)
    have hb := partF_mem n (t.drop (lessN x t)) (d + 1)
    unfold partF at h
    split at h
    · simp at h
    · split at h
      · obtain ⟨h1, h2⟩ := ha p h
        exact ⟨List.mem_cons_of_mem _ (List.mem_of_mem_take h1), by omega⟩
      · simp only [List.mem_append, List.mem_singleton] at h
        rcases h with (h | rfl) | h
        · obtain ⟨h1, h2⟩ := ha p h
          exact ⟨List.mem_cons_of_mem _ (List.mem_of_mem_take h1), by omega⟩
        · exact ⟨by simp, by simp⟩
        · obtain ⟨h1, h2⟩ := hb p h
          exact ⟨List.mem_cons_of_mem _ (List.mem_of_mem_drop h1), by omega⟩
/-- A list that is parted makes a tree that is told so. -/
theorem walk_part (l : List IP) (n : Nat) : ∀ (first : List Int) (d : Int) (lo : Nat), first.length ≤ n → (partF n first d).1 = true → (∀ j, j < (partF n first d).2.length → l[lo + j]? = (partF n first d).2[j]?) →
    (partF n first d).2.Pairwise (fun a b => a.1 < b.1) ∧ walkF l false lo (lo + (partF n first d).2.length) = first ∧ ∃ t, ptR l lo (lo + (partF n first d).2.length) d = some t := by
  induction n with
  | zero =>
    intro first d lo h1 _ _
    obtain rfl : first = [] := List.eq_nil_of_length_eq_zero (by omega)
    simp only [partF, List.length_nil, Nat.add_zero]
    exact ⟨.nil, walkF_nil l false lo lo (by omega), _, ptR_nil l lo lo d (by omega)⟩
  | succ n ih =>
    intro first d lo h1 hok hl
    cases first with
    | nil =>
      simp only [partF, List.length_nil, Nat.add_zero]
      exact ⟨.nil, walkF_nil l false lo lo (by omega), _, ptR_nil l lo lo d (by omega)⟩
    | cons x t =>
      have hln := lessN_le x t
      obtain ⟨A, hA⟩ : ∃ A, A = partF n (t.take (lessN x t)) (d + 1) := ⟨_, rfl⟩
      obtain ⟨Bq, hB⟩ : ∃ B, B = partF n (t.drop (lessN x t)) (d + 1) := ⟨_, rfl⟩
      have hpf : partF (n + 1) (x :: t) d = if (t.drop (lessN x t)).any (fun k => decide (k ≤ x)) then (false, []) else if A.1 = false then (false, A.2) else (Bq.1, A.2 ++ [(x, d)] ++ Bq.2) := by rw [partF, hA, hB]
      by_cases hany : (t.drop (lessN x t)).any (fun k => decide (k ≤ x)) = true
      · rw [hpf, if_pos hany] at hok; simp at hok
      · rw [if_neg hany] at hpf
        by_cases hA1 : A.1 = false
        · rw [hpf, if_pos hA1] at hok; simp at hok
        · rw [if_neg hA1] at hpf
          rw [hpf] at hok hl ⊢
          simp only at hok hl ⊢
          have hA1' : A.1 = true := by cases h : A.1 with | true => rfl | false => exact absurd h hA1
          have hlen : (A.2 ++ [(x, d)] ++ Bq.2).length = A.2.length + 1 + Bq.2.length := by simp; omega
          rw [hlen] at hl ⊢
          have ia := ih (t.take (lessN x t)) (d + 1) lo (by simp at h1 ⊢; omega) (by rw [← hA]; exact hA1') (fun j hj => by
            rw [← hA] at hj ⊢
            rw [hl j (by omega), List.append_assoc, List.getElem?_append_left hj])
          have ib := ih (t.drop (lessN x t)) (d + 1) (lo + A.2.length + 1) (by simp at h1 ⊢; omega) (by rw [← hB]; exact hok) (fun j hj => by
            rw [← hB] at hj ⊢
            have := hl (A.2.length + 1 + j) (by omega)
            rw [show lo + (A.2.length + 1 + j) = lo + A.2.length + 1 + j from by omega] at this
            rw [this, List.getElem?_append_right (by simp)]
            congr 1; simp)
          have ma := partF_mem n (t.take (lessN x t)) (d + 1)
          have mb := partF_mem n (t.drop (lessN x t)) (d + 1)
          rw [← hA] at ia ma
          rw [← hB] at ib mb
          obtain ⟨a1, a2, ta, a3⟩ := ia
          obtain ⟨b1, b2, tb, b3⟩ := ib
          have hltA : ∀ y ∈ t.take (lessN x t), y < x := fun y hy => by
            obtain ⟨j, hj, rfl⟩ := List.getElem_of_mem hy
            simp at hj
            rw [List.getElem_take]
            exact lessN_lt x t j (by omega) (by omega)
          have hgtB : ∀ y ∈ t.drop (lessN x t), x < y := fun y hy => by
            simp only [Bool.not_eq_true, List.any_eq_false, decide_eq_true_eq] at hany
            have := hany y hy; omega
          have hp : l[lo + A.2.length]? = some (x, d) := by
            rw [hl A.2.length (by omega), List.append_assoc, List.getElem?_append_right (Nat.le_refl _)]; simp
          have hpl : lo + A.2.length < l.length := by
            rcases Nat.lt_or_ge (lo + A.2.length) l.length with h | h
            · exact h
            · rw [List.getElem?_eq_none h] at hp; cases hp
          have hpe : l[lo + A.2.length] = (x, d) := by rw [List.getElem?_eq_getElem hpl] at hp; exact Option.some.inj hp
          have hgv : gv l (lo + A.2.length) = d := by rw [gv_eq l _ hpl, hpe]
          have hgk : gk l (lo + A.2.length) = x := by rw [gk_eq l _ hpl, hpe]
          have hge : ∀ j (q : IP), l[j]? = some q → gv l j = q.2 := fun j q h => by
            have hj : j < l.length := by
              rcases Nat.lt_or_ge j l.length with h' | h'
              · exact h'
              · rw [List.getElem?_eq_none h'] at h; cases h
            rw [gv_eq l j hj]
            rw [List.getElem?_eq_getElem hj] at h
            rw [Option.some.inj h]
          have htop : topS l lo (lo + (A.2.length + 1 + Bq.2.length)) = (lo + A.2.length, true) := topS_find l lo _ (lo + A.2.length) (by omega) (by omega) (fun j j1 j2 j3 => by
            rw [hgv]
            have hlj := hl (j - lo) (by omega)
            rw [show lo + (j - lo) = j from by omega] at hlj
            rcases Nat.lt_or_ge j (lo + A.2.length) with hj | hj
            · rw [List.append_assoc, List.getElem?_append_left (by omega), List.getElem?_eq_getElem (show j - lo < A.2.length by omega)] at hlj
              rw [hge j _ hlj]
              have := (ma _ (List.getElem_mem (show j - lo < A.2.length by omega))).2; omega
            · rw [List.getElem?_append_right (by simp; omega)] at hlj
              have hx : j - lo - (A.2 ++ [(x, d)]).length < Bq.2.length := by simp; omega
              rw [List.getElem?_eq_getElem hx] at hlj
              rw [hge j _ hlj]
              have := (mb _ (List.getElem_mem hx)).2; omega)
          have hend : lo + (A.2.length + 1 + Bq.2.length) = lo + A.2.length + 1 + Bq.2.length := by omega
          refine ⟨?_, ?_, ?_⟩
          · rw [List.pairwise_append, List.pairwise_append]
            refine ⟨⟨a1, by simp, fun p hp q hq => ?_⟩, b1, fun p hp q hq => ?_⟩
            · simp at hq; subst hq
              exact hltA _ (ma p hp).1
            · have h2 := hgtB _ (mb q hq).1
              rcases List.mem_append.1 hp with hp | hp
              · have := hltA _ (ma p hp).1; omega
              · simp at hp; subst hp; exact h2
          · rw [walkF_first l lo _ (by omega), htop]
            simp only
            rw [hgk, a2, hend, b2]
            simp
          · rw [ptR_node l lo _ d (by omega) (lo + A.2.length) htop hgv, a3, hend, b3]
            exact ⟨_, rfl⟩
theorem back_of (l : List IP) (h : (parOf l).2 = 0) : shapeOf (walkF l false 0 l.length) = (l, 0) := by
  obtain ⟨h1, h2, t, ht, _⟩ := parOf_len l h
  have hp := part_walk l (fun i j hi hj hij => mapRight_rise l h2 i j hi hj hij) l.length 0 l.length 0 t (by omega) (by omega) (Nat.le_refl _) ht
  have hl := walkF_len l false 0 l.length
  rw [shapeOf, if_neg (by omega), if_neg, show (walkF l false 0 l.length).length = l.length from by omega, hp, if_neg (by simp)]
  · simp
  · simp only [Classical.not_not]
    intro k hk
    obtain ⟨j, _, hj, rfl⟩ := walkF_mem l false 0 l.length k hk
    rw [gk_eq l j hj]
    exact mapRight_in l h2 _ (List.getElem_mem hj)
theorem shapeOf_bad (first : List Int) (h : (shapeOf first).2 ≠ 0) : (shapeOf first).1 = [] := by
  unfold shapeOf at h ⊢
  split
  · rfl
  · split
    · rfl
    · split
      · rfl
      · rename_i a b c
        rw [if_neg a, if_neg b, if_neg c] at h
        simp at h
end Go.Proofs.YtpkkajglbklboaaDoor
namespace Go.Proofs.YtpkkajglbklboaaDoor
open Go.ChangeShapes Go.WideShapes Go.ChangeAt Go.RowKit
set_option linter.unusedVariables false
set_option linter.unusedSimpArgs false

def keysM {α : Type} (kf : α → Int) : MT α → List Int
  | .nil => []
  | .node a l r => keysM kf l ++ [kf a] ++ keysM kf r
theorem keysM_len {α : Type} (kf : α → Int) : ∀ t : MT α, (keysM kf t).length = t.size
  | .nil => rfl
  | .node a l r => by simp [keysM, MT.size, keysM_len kf l, keysM_len kf r]; omega
theorem spotsBy_keys {α : Type} (kf : α → Int) : ∀ (t : MT α) (d : Int), (t.spotsBy kf d).map Prod.fst = keysM kf t
  | .nil, _ => rfl
  | .node a l r, d => by simp [MT.spotsBy, keysM, spotsBy_keys kf l, spotsBy_keys kf r]
def ptM {α : Type} : MT α → Nat → PT
  | .nil, _ => .nil
  | .node _ l r, off => .node (off + l.size) (ptM l off) (ptM r (off + l.size + 1))
theorem ptM_size {α : Type} : ∀ (t : MT α) (off : Nat), (ptM t off).size = t.size
  | .nil, _ => rfl
  | .node a l r, off => by simp [ptM, PT.size, MT.size, ptM_size l, ptM_size r]
theorem ptM_at {α : Type} : ∀ (t : MT α) (off : Nat), (ptM t off).At off
  | .nil, _ => trivial
  | .node a l r, off => ⟨by rw [ptM_size], ptM_at l off, ptM_at r _⟩
theorem ptM_deps {α : Type} (kf : α → Int) : ∀ (t : MT α) (off : Nat) (d : Int), (ptM t off).deps d = (t.spotsBy kf d).map Prod.snd
  | .nil, _, _ => rfl
  | .node a l r, off, d => by simp [ptM, PT.deps, MT.spotsBy, ptM_deps kf l, ptM_deps kf r]
/-- The spots of a tree whose keys rise are right. -/
theorem spotsBy_right {α : Type} (kf : α → Int) (t : MT α) (h1 : t.size ≤ 200) (h2 : (keysM kf t).Pairwise (fun a b => a < b)) (h3 : ∀ x ∈ keysM kf t, 0 ≤ x ∧ x ≤ 1000000) : parOf (t.spotsBy kf 0) = ((ptM t 0).pars (-1), 0) := by
  have hk := spotsBy_keys kf t 0
  have hl := MT.spotsBy_len kf t 0
  have hm : mapRight (t.spotsBy kf 0) = 0 := mapRight_of _ (by omega) (by rw [← hk] at h2; exact List.pairwise_map.1 h2) (fun x hx => h3 _ (by rw [← hk]; exact List.mem_map_of_mem hx))
  refine parOf_tree _ (ptM t 0) hm (ptM_at t 0) (by rw [ptM_size, hl]) fun j hj => ?_
  rw [ptM_deps kf, gv_eq _ j hj]
  simp [List.getElem?_eq_getElem hj]
end Go.Proofs.YtpkkajglbklboaaDoor
namespace Go.Proofs.YtpkkajglbklboaaDoor
open Go.ChangeShapes Go.WideShapes Go.ChangeAt Go.RowKit
set_option linter.unusedVariables false
set_option linter.unusedSimpArgs false

theorem fold_node (a : IP) : ∀ (t : List Int) (l r : MT IP), (∀ y ∈ t, y ≠ a.1) → t.foldl insK (.node a l r) = .node a ((lessL a.1 t).foldl insK l) ((moreL a.1 t).foldl insK r)
  | [], _, _, _ => rfl
  | y :: t, l, r, h => by
    have hy := h y (by simp)
    have ht : ∀ z ∈ t, z ≠ a.1 := fun z hz => h z (by simp [hz])
    rw [List.foldl_cons, insK, ins]
    by_cases hlt : y < a.1
    · rw [if_pos hlt, fold_node a t _ _ ht]
      simp [lessL, moreL, List.filter_cons, hlt, insK]
    · rw [if_neg hlt, if_pos (show a.1 < y by omega), fold_node a t _ _ ht]
      simp [lessL, moreL, List.filter_cons, hlt, insK]
theorem ofT_cons (x : Int) (t : List Int) (h : ∀ y ∈ t, y ≠ x) : ofT (x :: t) = .node (x, 0) (ofT (lessL x t)) (ofT (moreL x t)) := by
  rw [ofT, List.foldl_cons]
  exact fold_node (x, 0) t .nil .nil h
theorem allL_append (a b : List IP) : allL (a ++ b) = allL a + allL b := by simp [allL]
theorem allL_shift {α : Type} (kf : α → Int) : ∀ (t : MT α) (d : Int), allL (t.spotsBy kf (d + 1)) = allL (t.spotsBy kf d) + t.size
  | .nil, _ => by simp [MT.spotsBy, allL, MT.size]
  | .node a l r, d => by
    simp only [MT.spotsBy, allL_append, MT.size]
    rw [allL_shift kf l (d + 1), allL_shift kf r (d + 1)]
    simp [allL]; omega
theorem nodup_less {x : Int} {t : List Int} (h : t.Nodup) : (lessL x t).Nodup := h.filter _
theorem nodup_more {x : Int} {t : List Int} (h : t.Nodup) : (moreL x t).Nodup := h.filter _
/-- What the tree of unlike keys is, in words of the sort by parts. -/
theorem ofT_facts : ∀ (n : Nat) (l : List Int), l.length ≤ n → l.Nodup → (ofT l).size = l.length ∧ (sortF n l).1 = keysM Prod.fst (ofT l) ∧ (sortF n l).2 = allL ((ofT l).spotsBy Prod.fst 0) ∧ (keysM Prod.fst (ofT l)).Pairwise (fun a b => a < b) ∧ ∀ y, y ∈ keysM Prod.fst (ofT l) ↔ y ∈ l
  | _, [], _, _ => by simp [sortF_one, ofT, MT.size, keysM, MT.spotsBy, allL]
  | 0, x :: t, h, _ => by simp at h
  | n + 1, x :: t, h, hn => by
    rw [List.nodup_cons] at hn
    obtain ⟨hx, ht⟩ := hn
    have hne : ∀ y ∈ t, y ≠ x := fun y hy e => hx (by rw [← e]; exact hy)
    simp only [List.length_cons] at h
    have hpl := parts_len x t
    obtain ⟨a1, a2, a3, a4, a5⟩ := ofT_facts n (lessL x t) (by omega) (nodup_less ht)
    obtain ⟨b1, b2, b3, b4, b5⟩ := ofT_facts n (moreL x t) (by omega) (nodup_more ht)
    have hlt : ∀ y ∈ keysM Prod.fst (ofT (lessL x t)), y < x := fun y hy => by
      have := (a5 y).1 hy
      simp [lessL] at this
      exact this.2
    have hgt : ∀ y ∈ keysM Prod.fst (ofT (moreL x t)), x < y := fun y hy => by
      have := (b5 y).1 hy
      simp [moreL] at this
      have := hne y this.1
      omega
    rw [ofT_cons x t hne]
    refine ⟨?_, ?_, ?_, ?_, fun y => ?_⟩
    · simp only [MT.size, List.length_cons, a1, b1]; omega
    · cases t with
      | nil => simp [sortF_one, keysM, lessL, moreL, ofT]
      | cons z u => rw [sortF_more n x (z :: u) (by simp), a2, b2]; rfl
    · cases t with
      | nil => simp [sortF_one, MT.spotsBy, lessL, moreL, ofT, allL]
      | cons z u =>
        rw [sortF_more n x (z :: u) (by simp)]
        simp only [MT.spotsBy, allL_append]
        have e1 := allL_shift Prod.fst (ofT (lessL x (z :: u))) 0
        have e2 := allL_shift Prod.fst (ofT (moreL x (z :: u))) 0
        rw [e1, e2, ← a3, ← b3, a1, b1]
        simp only [List.length_cons] at hpl ⊢
        simp [allL]
        omega
    · simp only [keysM]
      rw [List.pairwise_append, List.pairwise_append]
      refine ⟨⟨a4, by simp, fun p hp q hq => ?_⟩, b4, fun p hp q hq => ?_⟩
      · simp at hq; subst hq; exact hlt p hp
      · have h2 := hgt q hq
        rcases List.mem_append.1 hp with hp | hp
        · have := hlt p hp; omega
        · simp at hp; subst hp; exact h2
    · simp only [keysM, List.mem_append, List.mem_cons, List.not_mem_nil, or_false, a5 y, b5 y]
      simp only [lessL, moreL, List.mem_filter]
      constructor
      · rintro ((⟨h1, _⟩ | h1) | ⟨h1, _⟩)
        · exact .inr h1
        · exact .inl h1
        · exact .inr h1
      · rintro (h1 | h1)
        · exact .inl (.inr h1)
        · by_cases hyx : y < x
          · exact .inl (.inl ⟨h1, by simpa using hyx⟩)
          · exact .inr ⟨h1, by simpa using hyx⟩
theorem rightG_ok (l : List Int) (h : rightG l = 0) : l.length ≤ 200 ∧ keysIn l ∧ l.Nodup := by
  unfold rightG at h
  split at h
  · omega
  · split at h
    · omega
    · split at h
      · omega
      · rename_i a b c
        exact ⟨by omega, by simpa using b, by simpa using c⟩
end Go.Proofs.YtpkkajglbklboaaDoor
