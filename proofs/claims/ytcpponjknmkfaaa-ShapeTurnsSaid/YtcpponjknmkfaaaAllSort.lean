/-
  shape.All: what it answers: all trees, in order, all unlike. Conditions: none.
-/
import Derived.Test.YtcpponjknmkfaaaAllTr
import Derived.Test.YtcpponjknmkfaaaAllCmp
import Derived.Test.YtcpponjknmkfaaaLSortS
import Derived.Shelf.SlSortCmp.Whole1
namespace Go.Proofs.Ytcpponjknmkfaaa
open Go.ChangeShapes Go.WideShapes Go.ChangeAt Go.RowKit
set_option linter.unusedVariables false
set_option linter.unusedSimpArgs false

theorem sortWorld_kf {α : Type} [Inhabited α] (enc : α → Value) (w : World) (g off m : Nat) (d : Array α) (os : Array Obj) : Kf (fun o => o = g) w (sortWorld enc w g off m d os) := by
  refine ⟨rfl, rfl, rfl, ?_, fun i hi hn => ?_⟩
  · unfold sortWorld
    rw [Go.Sort.size_grow, size_putRow]
    exact Nat.le_add_right _ _
  · unfold sortWorld
    rw [Go.Sort.heap_grow_old _ _ (by rw [size_putRow]; exact hi)]
    unfold Go.Sort.putRow Go.Sort.mapBlock
    rw [Array.getElem?_modify, if_neg (by simpa using fun e : g = i => hn e.symm)]
    rfl
theorem nodup_inj {α : Type} {l : List α} (h : l.Nodup) {i j : Nat} (hi : i < l.length) (hj : j < l.length) (e : l[i] = l[j]) : i = j := by
  rcases Nat.lt_trichotomy i j with h1 | h1 | h1
  · exact absurd e (List.pairwise_iff_getElem.1 h i j hi hj h1)
  · exact h1
  · exact absurd e.symm (List.pairwise_iff_getElem.1 h j i hj hi h1)
/-- A list put in another order, by its places. -/
theorem perm_places {α : Type} (z : α) (l : List α) (p : List Nat) (h : p.Perm (List.range l.length)) : (p.map fun k => l.getD k z).Perm l := by
  have h1 := h.map (fun k => l.getD k z)
  have e : (List.range l.length).map (fun k => l.getD k z) = l := by
    apply List.ext_getElem
    · simp
    · intro k h1 h2
      simp [List.getD_eq_getElem?_getD, List.getElem?_eq_getElem h2]
  rwa [e] at h1
/-- All trees, of so many nodes: each list is one of them; in order; all unlike. -/
def AllOf (n : Nat) (ls : List (List IP)) : Prop := ls.Perm (treesS n 0 n 0) ∧ ls.Pairwise (fun a b => cmpD a b < 0)
theorem all_strict {n : Nat} {x y : Nat} (hx : x < (treesS n 0 n 0).length) (hy : y < (treesS n 0 n 0).length) (h : cmpD ((treesS n 0 n 0).getD x []) ((treesS n 0 n 0).getD y []) = 0) : x = y := by
  have e := treesS_eq n 0 n 0
  rw [e] at h hx hy
  rw [List.length_map] at hx hy
  have g1 : ∀ k (hk : k < (allT n 0 n).length), ((allT n 0 n).map fun t => t.spotsBy id 0).getD k [] = ((allT n 0 n)[k]).spotsBy id 0 := fun k hk => by
    simp [List.getD_eq_getElem?_getD, List.getElem?_map, List.getElem?_eq_getElem hk]
  rw [g1 x hx, g1 y hy] at h
  have h2 := allT_deps (Nat.le_refl n) (List.getElem_mem hx) (List.getElem_mem hy) (cmpD_zero _ _ h)
  exact nodup_inj (allT_nodup n 0 n) hx hy h2
theorem all_sorted {n : Nat} {d : Array Nat} (hp : d.toList.Perm (List.range (treesS n 0 n 0).length)) (hs : ∀ i j, i < j → j < d.size → ¬ cmpD ((treesS n 0 n 0).getD (d[j]!) []) ((treesS n 0 n 0).getD (d[i]!) []) < 0) : AllOf n (d.toList.map fun k => (treesS n 0 n 0).getD k []) := by
  refine ⟨perm_places [] _ _ hp, ?_⟩
  rw [List.pairwise_map, List.pairwise_iff_getElem]
  intro i j hi hj hij
  have hi' : i < d.size := by simpa using hi
  have hj' : j < d.size := by simpa using hj
  have h1 := hs i j hij hj'
  rw [getElem!_pos d i hi', getElem!_pos d j hj'] at h1
  have h2 := cmpD_swap ((treesS n 0 n 0).getD d[i] []) ((treesS n 0 n 0).getD d[j] [])
  simp only [Array.getElem_toList]
  rcases Int.lt_trichotomy (cmpD ((treesS n 0 n 0).getD d[i] []) ((treesS n 0 n 0).getD d[j] [])) 0 with h | h | h
  · exact h
  · exfalso
    have hmx : d[i] < (treesS n 0 n 0).length := List.mem_range.1 (hp.mem_iff.1 (by simp))
    have hmy : d[j] < (treesS n 0 n 0).length := List.mem_range.1 (hp.mem_iff.1 (by simp))
    have e := all_strict hmx hmy h
    have hnd : d.toList.Nodup := hp.nodup_iff.2 List.nodup_range
    have := nodup_inj hnd (i := i) (j := j) (by simpa using hi') (by simpa using hj') (by simpa using e)
    omega
  · omega
def AllPost (n : Int) (w : World) (e : Ending) (w' : World) : Prop :=
  Kp w w' ∧ ((0 ≤ n ∧ n ≤ 7 ∧ ∃ v ls, e = .returned (.tuple #[v, .int .i64 0]) ∧ RDS w' ePair v ls ∧ AllOf n.toNat ls) ∨ ((n < 0 ∨ 7 < n) ∧ e = .returned (.tuple #[.slice none 0 0, .int .i64 1])))
set_option maxRecDepth 100000 in
set_option maxHeartbeats 4000000 in
/-- The sort of a row of trees. -/
theorem sortTrees_any (n : Nat) (hn : n ≤ 7) (B : Nat) (v : Value) (w : World) (hB : B ≤ w.heap.size) (h : OWS w B 22 41 ePair v (treesS n 0 n 0)) : Calls Try.prog 44 #[v, .func (.func 45) #[] #[]] w
    fun e w' => e = .returned (.tuple #[]) ∧ ∃ ls, RDS w' ePair v ls ∧ AllOf n ls ∧ ∃ g, v.ownBlock = some g ∧ B ≤ g ∧ Kf (fun o => o = g) w w' := by
  have hN := treesS_len n 0 n 0
  have hN2 := catF_le n hn n hn
  obtain ⟨vs, h1, h2, h3⟩ := h
  have hpos : 0 < vs.length := by
    rw [h2]
    cases n with
    | zero => simp [treesS]
    | succ n =>
      rw [treesS_len]
      have : ∀ m, m ≤ 7 → 0 < catF m m := by decide +kernel
      exact this _ hn
  rcases id h1.2 with ⟨rfl, h0⟩ | ⟨g, cap, cur, rfl, hg, hh, hle, hcap, hsz, htk⟩
  · omega
  have hblk : g < w.heap.size := (Array.getElem?_eq_some_iff.1 hh).1
  have hne : ∀ k (a : k < vs.length) (b : k < (treesS n 0 n 0).length), ∀ q, (vs[k].1).ownBlock = some q → ¬ q = g := fun k a b q hq e => by
    rcases (h3 k a b).apart h1 (by decide) with hz | hz
    · rw [hz] at hq; cases hq
    · rw [hq, e] at hz; exact hz rfl
  let enc : Nat → Value := fun k => (vs.getD k ⟨.slice none 0 0, rfl⟩).1
  let cf : Nat → Nat → Int := fun x y => cmpD ((treesS n 0 n 0).getD x []) ((treesS n 0 n 0).getD y [])
  have henc : ∀ k (hk : k < vs.length), enc k = vs[k].1 := fun k hk => by simp [enc, List.getD_eq_getElem?_getD, List.getElem?_eq_getElem hk]
  have hrd : ∀ (W : World), Kf (fun o => o = g) w W → ∀ x, RD W ePair (enc x) ((treesS n 0 n 0).getD x []) := fun W hk x => by
    by_cases hx : x < vs.length
    · have hx2 : x < (treesS n 0 n 0).length := by omega
      rw [henc x hx, show (treesS n 0 n 0).getD x [] = (treesS n 0 n 0)[x] by simp [List.getD_eq_getElem?_getD, List.getElem?_eq_getElem hx2]]
      exact ((h3 x hx hx2).kf hk (hne x hx hx2)).rd
    · rw [show (treesS n 0 n 0).getD x [] = [] by simp [List.getD_eq_getElem?_getD, List.getElem?_eq_none (show (treesS n 0 n 0).length ≤ x by omega)]]
      rw [show enc x = .slice none 0 0 by simp [enc, List.getD_eq_getElem?_getD, List.getElem?_eq_none (show vs.length ≤ x by omega)]]
      exact RD.nil
  have hcmp : CmpLays1 Try.prog 45 #[] enc cf g 0 (Array.range vs.length).size w := fun m os dk hs x y => by
    have h := all1_any _ _ _ _ (sortWorld enc w g 0 m dk os) (hrd _ (sortWorld_kf enc w g 0 m dk os) x) (hrd _ (sortWorld_kf enc w g 0 m dk os) y)
    exact h
  have hcell : ∀ j, j < vs.length → w.cell? ⟨g, 0 + j, none⟩ = some (enc j) := fun j hj => by
    obtain ⟨b, o, e1, _, hc⟩ := h1.rd.at_ hj
    injection e1 with e1
    injection e1 with e2 e3
    subst e2 e3
    have := hc 0 (by decide)
    rw [henc j hj]
    simpa [eVal] using this
  have hH : Go.Sort.Holds enc w g 0 (Array.range vs.length) := fun j hj => by
    simp only [Array.size_range] at hj
    refine ⟨?_, ?_⟩
    · rw [hcell j hj, getElem!_pos _ _ (by simpa using hj)]; simp
    · have hbc : BC w g 22 cur.toList := by unfold BC; simpa using hh
      exact hbc.frozen _
  have hcall := Any.slices_SortFunc lSortS enc (fun x => (vs.getD x ⟨.slice none 0 0, rfl⟩).2) cf (cmpD_swo _) 45 #[] g 0 cap (Array.range vs.length) w (enters_of Try.func45 (by kernel_rfl) rfl) hcmp hH hblk (by simp; omega)
  simp only [Array.size_range] at hcall
  refine Calls.mono hcall ?_
  rintro e w' ⟨rfl, d', m, os, hp, hs, rfl⟩
  obtain ⟨hp1, _, hp3⟩ := hp
  simp only [Array.size_range] at hp1
  have hperm : d'.toList.Perm (List.range (treesS n 0 n 0).length) := by
    have e1 : d'.extract 0 vs.length = d' := by rw [← hp1]; exact Array.extract_size
    have e2 : (Array.range vs.length).extract 0 vs.length = Array.range vs.length := by
      have := Array.extract_size (xs := Array.range vs.length); rwa [Array.size_range] at this
    rw [e1, e2] at hp3
    rw [← h2]
    simpa using hp3
  have hkf := sortWorld_kf enc w g 0 m d' os
  refine ⟨rfl, d'.toList.map fun k => (treesS n 0 n 0).getD k [], ?_, all_sorted hperm (fun i j hij hj => ?_), g, rfl, hg, hkf⟩
  · have hold := holds_sortWorld enc w g 0 m (Array.range vs.length) d' os hblk hH (by simpa using hp1)
    refine ⟨some ⟨g, 0, none⟩, cap, by simp [hp1], by simp; omega, hcap, fun _ => ⟨g, 0, rfl, ?_, fun k hk => ?_⟩⟩
    · exact Nat.lt_of_lt_of_le hblk hkf.size
    · have hk' : k < d'.size := by simpa using hk
      have h9 := (hold k hk').1
      rw [getElem!_pos d' k hk'] at h9
      refine ⟨enc d'[k], h9, ?_⟩
      have := hrd _ hkf d'[k]
      simpa using this
  · have := hs i j (Nat.zero_le _) hij (by omega)
    simpa [ltOf, cf] using this
set_option maxRecDepth 100000 in
set_option maxHeartbeats 4000000 in
theorem all_any (n : Int) (w : World) (hn : -9223372036854775808 ≤ n ∧ n ≤ 9223372036854775807) : Calls Try.prog 31 #[.int .i64 n] w (AllPost n w) := by
  by_cases h0 : n < 0
  · have d1 : decide (n < 0) = true := decide_eq_true h0
    have HP : Hid (AllPost n w (.returned (.tuple #[.slice none 0 0, .int .i64 1])) w) := hide ⟨Kp.refl _, .inr ⟨.inl h0, rfl⟩⟩
    clear h0
    go_enter Try.func31, Try.ntmps31
    go_wp2
    exact bodyPost_ret (v := .tuple #[.slice none 0 0, .int .i64 1]) (by simp [results, Try.results31, go_sem]) rfl HP.out
  · have d1 : decide (n < 0) = false := decide_eq_false h0
    by_cases h7 : 7 < n
    · have d2 : decide (7 < n) = true := decide_eq_true h7
      have HP : Hid (AllPost n w (.returned (.tuple #[.slice none 0 0, .int .i64 1])) w) := hide ⟨Kp.refl _, .inr ⟨.inr h7, rfl⟩⟩
      clear h0 h7
      go_enter Try.func31, Try.ntmps31
      go_wp2
      exact bodyPost_ret (v := .tuple #[.slice none 0 0, .int .i64 1]) (by simp [results, Try.results31, go_sem]) rfl HP.out
    · have d2 : decide (7 < n) = false := decide_eq_false h7
      obtain ⟨m, hm⟩ : ∃ m : Nat, n = (m : Int) := ⟨n.toNat, by omega⟩
      subst hm
      have hm7 : m ≤ 7 := by omega
      have HT := hide (trees_any m 0 m 0 w hm7 (Nat.le_refl _) (by omega) (by omega) (by omega))
      have HI : Hid (0 ≤ (m : Int) ∧ (m : Int) ≤ 7) := hide ⟨by omega, by omega⟩
      clear h0 h7 hn
      go_enter Try.func31, Try.ntmps31
      go_wp2_with fail
      refine HT.out.mono ?_
      rintro e w1 ⟨v1, rfl, ho1, k1⟩
      have HS := hide (sortTrees_any m hm7 w.heap.size v1 w1 k1.size ho1)
      have HK := hide k1
      obtain ⟨A1, c1, hv1, _, _⟩ := (ho1.rds (by have := treesS_len m 0 m 0; have := catF_le m hm7 m hm7; unfold maxLen; omega)).shape
      subst hv1
      clear ho1 k1
      go_wp2_with fail
      with_reducible refine HS.out.mono ?_
      rintro e w2 ⟨rfl, ls, hls, hall, g, hg1, hg2, hkf⟩
      have HP : Hid (AllPost m w (.returned (.tuple #[.slice A1 (treesS m 0 m 0).length c1, .int .i64 0])) w2) := hide ⟨hkf.kp HK.out (fun i hi => by omega), .inl ⟨HI.out.1, HI.out.2, _, ls, rfl, hls, by simpa using hall⟩⟩
      clear hls hall hkf
      go_wp2
      exact bodyPost_ret (v := .tuple #[.slice A1 (treesS m 0 m 0).length c1, .int .i64 0]) (by simp [results, Try.results31, go_sem]) rfl HP.out
end Go.Proofs.Ytcpponjknmkfaaa
