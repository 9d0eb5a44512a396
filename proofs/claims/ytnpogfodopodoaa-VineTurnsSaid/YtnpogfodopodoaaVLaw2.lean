/-
  Plain laws of the vine chapter: turns by the keys that come up; heights, rows. No program. Conditions: none.
-/
import Derived.Test.YtnpogfodopodoaaVLaw
import Derived.Test.YtnpogfodopodoaaWaysLaw
namespace Go.Proofs.Ytnpogfodopodoaa
open Go.ChangeShapes Go.WideShapes Go.ChangeAt Go.RowKit
set_option linter.unusedVariables false
set_option linter.unusedSimpArgs false

def preP : PT → List Nat
  | .nil => []
  | .node c x y => c :: (preP x ++ preP y)
def toldP : PT → List Nat
  | .nil => []
  | .node _ l r => preP l ++ toldP r
theorem preP_map (ks : List Int) : ∀ t : PT, preT (mtP ks t) = (preP t).map (fun a => ks.getD a 0)
  | .nil => rfl
  | .node c x y => by simp [mtP, preT, preP, preP_map ks x, preP_map ks y]
theorem toldP_map (ks : List Int) : ∀ t : PT, toldT (mtP ks t) = (toldP t).map (fun a => ks.getD a 0)
  | .nil => rfl
  | .node c x y => by simp [mtP, toldT, toldP, preP_map ks x, toldP_map ks y]
theorem preP_len : ∀ t : PT, (preP t).length = t.size
  | .nil => rfl
  | .node c x y => by simp [preP, PT.size, preP_len x, preP_len y]; omega
theorem toldP_len : ∀ t : PT, (toldP t).length + t.spine = t.size
  | .nil => rfl
  | .node c x y => by have := toldP_len y; simp [toldP, PT.spine, PT.size, preP_len]; omega
theorem preP_in : ∀ (t : PT) (off : Nat), t.At off → ∀ a ∈ preP t, off ≤ a ∧ a < off + t.size
  | .nil, _, _, a, h => by simp [preP] at h
  | .node c x y, off, ⟨hp, hl, hr⟩, a, h => by
    simp only [preP, List.mem_cons, List.mem_append] at h
    simp only [PT.size]
    rcases h with rfl | h | h
    · omega
    · have := preP_in x off hl a h; omega
    · have := preP_in y (c + 1) hr a h; omega
theorem toldP_in : ∀ (t : PT) (off : Nat), t.At off → ∀ a ∈ toldP t, off ≤ a ∧ a < off + t.size
  | .nil, _, _, a, h => by simp [toldP] at h
  | .node c x y, off, ⟨hp, hl, hr⟩, a, h => by
    simp only [toldP, List.mem_append] at h
    simp only [PT.size]
    rcases h with h | h
    · have := preP_in x off hl a h; omega
    · have := toldP_in y (c + 1) hr a h; omega
theorem toldP_rot : ∀ (t : PT) (off a : Nat) (rest : List Nat), t.At off → toldP t = a :: rest → ∃ p, (t.anc a).head? = some p ∧ toldP (t.rot a) = rest
  | .nil, _, _, _, _, h => by simp [toldP] at h
  | .node q l r, off, a, rest, ⟨hq, hl, hr⟩, h => by
    have hanc : ∀ k, (PT.node q l r).anc k = if k < q then l.anc k ++ [q] else if k = q then [] else r.anc k ++ [q] := fun k => rfl
    cases l with
    | nil =>
      simp only [toldP, preP, List.nil_append] at h
      have hin := toldP_in r (q + 1) hr a (by rw [h]; simp)
      obtain ⟨p, hp, ht⟩ := toldP_rot r (q + 1) a rest hr h
      have hne : r.anc a ≠ [] := by intro e; rw [e] at hp; simp at hp
      refine ⟨p, ?_, ?_⟩
      · rw [hanc, if_neg (by omega), if_neg (by omega)]
        exact head_append' _ _ _ hp
      · rw [PT.rot_r q a .nil r (by omega) hne]
        simpa [toldP, preP] using ht
    | node c x y =>
      simp only [toldP, preP, List.cons_append, List.cons.injEq] at h
      obtain ⟨rfl, h⟩ := h
      have hc := hl.1
      simp only [PT.size] at hq
      refine ⟨q, ?_, ?_⟩
      · rw [hanc, if_pos (by omega)]; simp [PT.anc]
      · rw [PT.rot_l1 q c x y r (by omega)]
        rw [← h]; simp [toldP]
theorem toldP_end : ∀ (t : PT) (off : Nat), t.At off → toldP t = [] → ∀ k, off ≤ k → k < off + t.size → (t.anc k).length = k - off
  | .nil, off, _, _, k, h1, h2 => by simp [PT.size] at h2; omega
  | .node q l r, off, ⟨hq, hl, hr⟩, h, k, h1, h2 => by
    have hanc : ∀ k, (PT.node q l r).anc k = if k < q then l.anc k ++ [q] else if k = q then [] else r.anc k ++ [q] := fun k => rfl
    simp only [toldP, List.append_eq_nil_iff] at h
    simp only [PT.size] at h2
    cases l with
    | node c x y => simp [preP] at h
    | nil =>
      simp only [PT.size] at hq h2
      rw [hanc, if_neg (by omega)]
      by_cases hk : k = q
      · rw [if_pos hk]; simp; omega
      · rw [if_neg hk]
        have ih := toldP_end r (q + 1) hr h.2 k (by omega) (by omega)
        simp; omega
/-! Heights and rows of spots. -/
theorem foldl_most : ∀ (b : List IP) (m : Int), -1 ≤ m → b.foldl (fun m p => max m p.2) m = max m (mostL b)
  | [], m, h => by simp [mostL]; omega
  | p :: t, m, h => by
    have h1 := foldl_most t (max m p.2) (by omega)
    have h2 := foldl_most t (max (-1) p.2) (by omega)
    have h3 : mostL (p :: t) = t.foldl (fun m p => max m p.2) (max (-1) p.2) := rfl
    rw [List.foldl_cons, h1, h3, h2]
    omega
theorem mostL_append (a b : List IP) : mostL (a ++ b) = max (mostL a) (mostL b) := by
  have : -1 ≤ mostL a := by
    have h := foldl_most a (-1) (by omega)
    rw [← mostL] at h; omega
  rw [mostL, List.foldl_append]
  exact foldl_most b _ this
theorem mostL_one (p : IP) : mostL [p] = max (-1) p.2 := rfl
theorem mostL_spots : ∀ (T : MT Int) (d : Int), 0 ≤ d → mostL (T.spotsBy id d) = if heiM T = 0 then -1 else d + heiM T - 1
  | .nil, d, _ => by simp [MT.spotsBy, heiM, mostL]
  | .node a l r, d, hd => by
    have h1 := mostL_spots l (d + 1) (by omega)
    have h2 := mostL_spots r (d + 1) (by omega)
    rw [MT.spotsBy, mostL_append, mostL_append, mostL_one, h1, h2]
    simp only [heiM]
    split <;> split <;> simp <;> omega
theorem size_hei : ∀ T : MT Int, T.size + 1 ≤ 2 ^ heiM T
  | .nil => by simp [MT.size, heiM]
  | .node a l r => by
    have h1 := size_hei l
    have h2 := size_hei r
    have h3 : 2 ^ heiM l ≤ 2 ^ max (heiM l) (heiM r) := Nat.pow_le_pow_right (by omega) (by omega)
    have h4 : 2 ^ heiM r ≤ 2 ^ max (heiM l) (heiM r) := Nat.pow_le_pow_right (by omega) (by omega)
    simp only [MT.size, heiM, Nat.pow_succ]
    omega
theorem cnt_spots : ∀ (T : MT Int) (d0 : Int) (d : Nat), ((T.spotsBy id d0).map Prod.snd).count (d0 + d) = cntD T d
  | .nil, _, _ => rfl
  | .node a l r, d0, d => by
    simp only [MT.spotsBy, List.map_append, List.count_append, List.map_cons, List.map_nil]
    have hlow : ∀ (T : MT Int) (e : Int), ((T.spotsBy id (e + 1)).map Prod.snd).count e = 0 := by
      intro T e
      rw [List.count_eq_zero]
      intro h
      obtain ⟨p, hp, he⟩ := List.mem_map.1 h
      have : ∀ (T : MT Int) (e : Int), ∀ p ∈ T.spotsBy id e, e ≤ p.2 := by
        intro T
        induction T with
        | nil => intro e p hp; simp [MT.spotsBy] at hp
        | node a l r ihl ihr =>
          intro e p hp
          simp only [MT.spotsBy, List.mem_append, List.mem_singleton] at hp
          rcases hp with (hp | rfl) | hp
          · have := ihl (e + 1) p hp; omega
          · exact Int.le_refl _
          · have := ihr (e + 1) p hp; omega
      have := this T (e + 1) p hp
      omega
    cases d with
    | zero =>
      have h1 := hlow l d0
      have h2 := hlow r d0
      simp only [Int.natCast_zero, Int.add_zero, h1, h2, cntD]
      simp
    | succ d =>
      have h1 := cnt_spots l (d0 + 1) d
      have h2 := cnt_spots r (d0 + 1) d
      have e : d0 + ((d + 1 : Nat) : Int) = d0 + 1 + (d : Int) := by omega
      rw [e, h1, h2, cntD, List.count_cons]
      have : ¬ (d0 == d0 + 1 + (d : Int)) = true := by simp; omega
      simp [this]
theorem up_le (T : MT Int) : upE T ≤ 2 * T.size := by
  obtain ⟨h1, h2⟩ := lgE_spec T.size
  have := toldT_len T
  have := upS_le (lgE T.size)
  have h3 : ∀ j, upS j + 1 ≤ 2 ^ j := by
    intro j
    induction j with
    | zero => simp [upS]
    | succ j ih => have := Nat.pow_pos (n := j) (show 0 < 2 by omega); rw [upS, Nat.pow_succ]; omega
  have := h3 (lgE T.size)
  unfold upE
  omega
/-- What stands of an even tree, in words of its spots. -/
theorem even_right {l : List IP} (h : (parOf l).2 = 0) : (parOf ((evenT (l.map Prod.fst)).spotsBy id 0)).2 = 0 ∧ ((evenT (l.map Prod.fst)).spotsBy id 0).map Prod.fst = l.map Prod.fst ∧ (evenT (l.map Prod.fst)).size = l.length ∧
    (sumOf ((evenT (l.map Prod.fst)).spotsBy id 0)) = (mostL ((evenT (l.map Prod.fst)).spotsBy id 0), allL ((evenT (l.map Prod.fst)).spotsBy id 0), 0) := by
  obtain ⟨hl, hm, _⟩ := parOf_len l h
  have hk := keys_even (l.map Prod.fst)
  have hsz : (evenT (l.map Prod.fst)).size = l.length := by rw [← keysM_len id, hk]; simp
  have r2 : (l.map Prod.fst).Pairwise (fun a b => a < b) := by
    rw [List.pairwise_iff_getElem]
    intro i j hi hj hij
    simp only [List.length_map] at hi hj
    simp only [List.getElem_map]
    exact mapRight_rise l hm i j hi hj hij
  have r3 : ∀ x ∈ l, 0 ≤ x.1 ∧ x.1 ≤ 1000000 := fun x hx => mapRight_in l hm x hx
  have hp : (parOf ((evenT (l.map Prod.fst)).spotsBy id 0)).2 = 0 := by
    rw [spotsBy_right id _ (by omega) (by rw [hk]; exact r2) (by rw [hk]; intro x hx; obtain ⟨p, hp, rfl⟩ := List.mem_map.1 hx; exact r3 p hp)]
  exact ⟨hp, by rw [spotsBy_keys, hk], hsz, by rw [sumOf, if_neg (by simp [hp])]⟩
end Go.Proofs.Ytnpogfodopodoaa
