/-
  Plain laws: what zip.read reads of spots; parted and put together a zipped tree is as it was. No program. Conditions: none.
  hedgkeep.ok: what it answers. Conditions: the list reads as l (RD).
  hedgkeep.putAll, zipLives: what they answer. Conditions: the list reads as l (RD); the table of math/bits holds what it is laid with (DTb).
  hedgkeep.ZipBack: the walk: it answers true. Conditions: the list reads as l (RD); the key is an int; the table of math/bits holds what it is laid with (DTb).
-/
import Derived.Test.YtfgbbmjnjppfnaaDoorZipBackM17
import Derived.Test.YtfgbbmjnjppfnaaDoorZipBackM18
import Derived.Test.YtfgbbmjnjppfnaaDoorZipBackM1
import Derived.Test.YtfgbbmjnjppfnaaDoorZipBackM16

namespace Go.Proofs.YtfgbbmjnjppfnaaDoor
open Go.ChangeShapes Go.WideShapes Go.ChangeAt Go.RowKit
set_option linter.unusedVariables false
set_option linter.unusedSimpArgs false

theorem nd_mapZ : ∀ t : MT Int, nd (mapZ t) = (keysM id t).map zk
  | .nil => rfl
  | .node a l r => by simp [mapZ, nd, keysM, nd_mapZ l, nd_mapZ r]
/-- The parts that a list of parents names, and the order: one way. -/
theorem hp_of (ks : List Int) : ∀ (t : PT) (lo : Nat) (u : Int), t.At lo → (u < lo ∨ (lo : Int) + t.size ≤ u) →
    (∀ j v, j < t.size → (t.pars u)[j]? = some v → (lo : Int) ≤ v → v < lo + t.size → ov (zk (ks.getD v.toNat 0)) (zk (ks.getD (lo + j) 0)) = true) → Hp (mapZ (mtP ks t)) ∧ (∀ q, t.root = some q → ∀ x ∈ nd (mapZ (mtP ks t)), x = zk (ks.getD q 0) ∨ ov (zk (ks.getD q 0)) x = true)
  | .nil, lo, u, _, _, _ => ⟨trivial, fun q h => by cases h⟩
  | .node p l r, lo, u, ⟨hp, hl, hr⟩, hu, hov => by
    simp only [PT.size] at hu hov
    push_cast at hu hov
    obtain ⟨i1, i2⟩ := hp_of ks l lo p hl (.inr (by omega)) (fun j v hj hv h1 h2 => hov j v (by omega) (by rw [PT.pars_node, if_pos hj]; exact hv) h1 (by omega))
    obtain ⟨j1, j2⟩ := hp_of ks r (p + 1) p hr (.inl (by omega)) (fun j v hj hv h1 h2 => by
      have := hov (l.size + 1 + j) v (by omega) (by rw [PT.pars_node, if_neg (by omega), if_neg (by omega), show l.size + 1 + j - (l.size + 1) = j by omega]; exact hv) (by omega) (by omega)
      rwa [show lo + (l.size + 1 + j) = p + 1 + j by omega] at this)
    have hL : ∀ x ∈ nd (mapZ (mtP ks l)), ov (zk (ks.getD p 0)) x = true := fun x hx => by
      cases hq : l.root with
      | none => cases l with
        | nil => simp [mtP, mapZ, nd] at hx
        | node q a b => simp [PT.root] at hq
      | some q =>
        have hqi := PT.root_in l lo q hl hq
        have hrt : ov (zk (ks.getD p 0)) (zk (ks.getD q 0)) = true := by
          obtain ⟨v, hv1, hv2⟩ := PT.pars_in l lo p hl (q - lo) (by omega)
          have hvp : v = p := by
            rcases hv2 with h | h
            · exact h.2
            · exact absurd (by rw [hq]; congr 1; omega) h.1
          have := hov (q - lo) v (by omega) (by rw [PT.pars_node, if_pos (by omega)]; exact hv1) (by omega) (by omega)
          rwa [hvp, Int.toNat_natCast, show lo + (q - lo) = q by omega] at this
        rcases i2 q hq x hx with h | h
        · rw [h]; exact hrt
        · exact ov_trans hrt h
    have hR : ∀ x ∈ nd (mapZ (mtP ks r)), ov (zk (ks.getD p 0)) x = true := fun x hx => by
      cases hq : r.root with
      | none => cases r with
        | nil => simp [mtP, mapZ, nd] at hx
        | node q a b => simp [PT.root] at hq
      | some q =>
        have hqi := PT.root_in r (p + 1) q hr hq
        have hrt : ov (zk (ks.getD p 0)) (zk (ks.getD q 0)) = true := by
          obtain ⟨v, hv1, hv2⟩ := PT.pars_in r (p + 1) p hr (q - (p + 1)) (by omega)
          have hvp : v = p := by
            rcases hv2 with h | h
            · exact h.2
            · exact absurd (by rw [hq]; congr 1; omega) h.1
          have := hov (q - lo) v (by omega) (by rw [PT.pars_node, if_neg (by omega), if_neg (by omega), show q - lo - (l.size + 1) = q - (p + 1) by omega]; exact hv1) (by omega) (by omega)
          rwa [hvp, Int.toNat_natCast, show lo + (q - lo) = q by omega] at this
        rcases j2 q hq x hx with h | h
        · rw [h]; exact hrt
        · exact ov_trans hrt h
    refine ⟨⟨hL, hR, i1, j1⟩, fun q hq x hx => ?_⟩
    simp only [PT.root, Option.some.injEq] at hq
    subst hq
    simp only [mtP, mapZ, nd, List.mem_append, List.mem_cons] at hx
    rcases hx with h | h | h
    · exact .inr (hL x h)
    · exact .inl h
    · exact .inr (hR x h)
/-- The other way. -/
theorem of_hp (ks : List Int) : ∀ (t : PT) (lo : Nat) (u : Int), t.At lo → (u < lo ∨ (lo : Int) + t.size ≤ u) → Hp (mapZ (mtP ks t)) →
    (∀ j v, j < t.size → (t.pars u)[j]? = some v → (lo : Int) ≤ v → v < lo + t.size → ov (zk (ks.getD v.toNat 0)) (zk (ks.getD (lo + j) 0)) = true) ∧ ∀ j, j < t.size → zk (ks.getD (lo + j) 0) ∈ nd (mapZ (mtP ks t))
  | .nil, lo, u, _, _, _ => ⟨fun j v h => by simp [PT.size] at h, fun j h => by simp [PT.size] at h⟩
  | .node p l r, lo, u, ⟨hp, hl, hr⟩, hu, ⟨p1, p2, p3, p4⟩ => by
    simp only [PT.size] at hu ⊢
    push_cast at hu ⊢
    obtain ⟨i1, i2⟩ := of_hp ks l lo p hl (.inr (by omega)) p3
    obtain ⟨j1, j2⟩ := of_hp ks r (p + 1) p hr (.inl (by omega)) p4
    refine ⟨fun j v hj hv h1 h2 => ?_, fun j hj => ?_⟩
    · rw [PT.pars_node] at hv
      rcases Nat.lt_trichotomy j l.size with h | h | h
      · rw [if_pos h] at hv
        by_cases hvp : v = p
        · rw [hvp, Int.toNat_natCast]
          exact p1 _ (i2 j h)
        · obtain ⟨v', e1, e2⟩ := PT.pars_in l lo p hl j h
          rw [hv] at e1
          injection e1 with e1
          subst e1
          rcases e2 with e2 | e2
          · exact absurd e2.2 hvp
          · have := e2.2; push_cast at this; exact i1 j v h hv (by omega) (by omega)
      · rw [if_neg (by omega), if_pos h] at hv
        injection hv with hv
        omega
      · rw [if_neg (by omega), if_neg (by omega)] at hv
        by_cases hvp : v = p
        · rw [hvp, Int.toNat_natCast]
          have := p2 _ (j2 (j - (l.size + 1)) (by omega))
          rwa [show p + 1 + (j - (l.size + 1)) = lo + j by omega] at this
        · obtain ⟨v', e1, e2⟩ := PT.pars_in r (p + 1) p hr (j - (l.size + 1)) (by omega)
          rw [hv] at e1
          injection e1 with e1
          subst e1
          rcases e2 with e2 | e2
          · exact absurd e2.2 hvp
          · have e3 := e2.2
            push_cast at e3
            have := j1 (j - (l.size + 1)) v (by omega) hv (by push_cast; omega) (by push_cast; omega)
            rwa [show p + 1 + (j - (l.size + 1)) = lo + j by omega] at this
    · simp only [mtP, mapZ, nd, List.mem_append, List.mem_cons]
      rcases Nat.lt_trichotomy j l.size with h | h | h
      · exact .inl (i2 j h)
      · exact .inr (.inl (by rw [show lo + j = p by omega]))
      · have := j2 (j - (l.size + 1)) (by omega)
        rw [show p + 1 + (j - (l.size + 1)) = lo + j by omega] at this
        exact .inr (.inr this)
theorem keysM_ndB : ∀ t : MT IP, keysM Prod.fst t = (nd t).map Prod.fst
  | .nil => rfl
  | .node a l r => by simp [keysM, nd, keysM_ndB l, keysM_ndB r]
def kT : MT IP → MT Int
  | .nil => .nil
  | .node a l r => .node a.1 (kT l) (kT r)
theorem mapZ_kT : ∀ t : MT IP, (∀ x ∈ nd t, x = zk x.1) → mapZ (kT t) = t
  | .nil, _ => rfl
  | .node a l r, h => by
    rw [kT, mapZ, mapZ_kT l (fun x hx => h x (by simp [nd, hx])), mapZ_kT r (fun x hx => h x (by simp [nd, hx])), ← h a (by simp [nd])]
theorem mtP_ptM (ks : List Int) : ∀ (t : MT IP) (off : Nat), (∀ j, j < t.size → ks.getD (off + j) 0 = ((nd t).map Prod.fst).getD j 0) → mtP ks (ptM t off) = kT t
  | .nil, _, _ => rfl
  | .node a l r, off, h => by
    have hln : ∀ t : MT IP, (nd t).length = t.size := by
      intro t
      induction t with
      | nil => rfl
      | node a l r ihl ihr => simp only [nd, List.length_append, List.length_cons, MT.size, ihl, ihr]; omega
    have g : ∀ j, ((nd (.node a l r)).map Prod.fst).getD j 0 = if j < l.size then ((nd l).map Prod.fst).getD j 0 else if j = l.size then a.1 else ((nd r).map Prod.fst).getD (j - (l.size + 1)) 0 := fun j => by
      simp only [nd, List.map_append, List.map_cons, List.getD_eq_getElem?_getD]
      rcases Nat.lt_trichotomy j l.size with h1 | h1 | h1
      · rw [if_pos h1, List.getElem?_append_left (by simp [hln]; exact h1)]
      · rw [if_neg (by omega), if_pos h1, List.getElem?_append_right (by simp [hln]; omega)]
        simp [hln, h1]
      · rw [if_neg (by omega), if_neg (by omega), List.getElem?_append_right (by simp [hln]; omega)]
        simp only [List.length_map, hln]
        rw [show j - l.size = (j - (l.size + 1)) + 1 by omega, List.getElem?_cons_succ]
    simp only [MT.size] at h
    rw [ptM, mtP, kT]
    congr 1
    · rw [h l.size (by omega), g, if_neg (by omega), if_pos rfl]
    · exact mtP_ptM ks l off (fun j hj => by rw [h j (by omega), g, if_pos hj])
    · exact mtP_ptM ks r (off + l.size + 1) (fun j hj => by
        have := h (l.size + 1 + j) (by omega)
        rw [g, if_neg (by omega), if_neg (by omega), show l.size + 1 + j - (l.size + 1) = j by omega] at this
        rw [← this]; congr 1; omega)
theorem okB_iff (l : List IP) (up : List Int) (n : Nat) : okB l up n = true ↔ ∀ j, j < n → 0 ≤ gI up j → ov (zk (gk l (gI up j).toNat)) (zk (gk l j)) = true := by
  rw [okB, List.all_eq_true]
  constructor
  · intro h j hj h0
    have := h j (List.mem_range.2 hj)
    simp only [Bool.or_eq_true, decide_eq_true_eq] at this
    rcases this with h1 | h1
    · omega
    · exact h1
  · intro h j hj
    simp only [Bool.or_eq_true, decide_eq_true_eq]
    by_cases h0 : gI up j < 0
    · exact .inl h0
    · exact .inr (h j (List.mem_range.1 hj) (by omega))
/-- A zipped tree's spots are read as that tree. -/
theorem readZ_spots {M : MT IP} {ks : List Int} (h : ZI M ks) (hn : M.size ≤ 200) (hk : ∀ k ∈ ks, 0 ≤ k ∧ k ≤ 1000000) : (parOf (M.spotsBy Prod.fst 0)).2 = 0 ∧ ∃ B, readZ (M.spotsBy Prod.fst 0) = (B, 0) ∧ mapZ B = M := by
  have hkk : keysM Prod.fst M = ks := by
    have : ∀ t : MT IP, keysM Prod.fst t = (nd t).map Prod.fst := by
      intro t
      induction t with
      | nil => rfl
      | node a l r ihl ihr => simp [keysM, nd, ihl, ihr]
    rw [this, h.nd_, List.map_map]; simp [Function.comp_def, zk]
  have hp := spotsBy_right Prod.fst M hn (by rw [hkk]; exact h.up) (by rw [hkk]; exact hk)
  have hs := spotsBy_keys Prod.fst M 0
  rw [hkk] at hs
  have hsl := MT.spotsBy_len Prod.fst M 0
  obtain ⟨s, hse⟩ : ∃ s, s = M.spotsBy Prod.fst 0 := ⟨_, rfl⟩
  rw [← hse] at hp hs hsl ⊢
  have h0 : (parOf s).2 = 0 := by rw [hp]
  have hpt : ptR s 0 s.length 0 = some (ptM M 0) := ptR_of s (ptM M 0) 0 s.length 0 (ptM_at M 0) (by rw [ptM_size, hsl]; omega) (fun j hj => by
    rw [ptM_deps Prod.fst, Nat.zero_add, ← hse]
    rw [ptM_size] at hj
    rw [gv_eq s j (by omega)]
    simp [List.getElem?_eq_getElem (show j < s.length by omega)])
  have hmt : mtP (s.map Prod.fst) (ptM M 0) = kT M := mtP_ptM _ M 0 (fun j hj => by
    rw [Nat.zero_add, hs, h.nd_, List.map_map]; simp [Function.comp_def, zk])
  have hB : mapZ (kT M) = M := mapZ_kT M (fun x hx => by
    rw [h.nd_] at hx
    obtain ⟨y, _, rfl⟩ := List.mem_map.1 hx
    rfl)
  have hok : okB s ((ptM M 0).pars (-1)) s.length = true := by
    rw [okB_iff]
    intro j hj h9
    have h8 := (of_hp (s.map Prod.fst) (ptM M 0) 0 (-1) (ptM_at M 0) (.inl (by omega)) (by rw [hmt, hB]; exact h.hp)).1
    have hjs : j < (ptM M 0).size := by rw [ptM_size]; omega
    obtain ⟨v, e1, e2⟩ := PT.pars_in (ptM M 0) 0 (-1) (ptM_at M 0) j hjs
    have hg : gI ((ptM M 0).pars (-1)) j = v := by rw [gI, List.getD_eq_getElem?_getD, e1]; rfl
    rw [hg] at h9 ⊢
    have e3 : v < (0 : Int) + (ptM M 0).size := by
      rcases e2 with e2 | e2
      · omega
      · have := e2.2.2; push_cast at this; omega
    have := h8 j v hjs e1 (by push_cast; omega) (by push_cast; omega)
    rw [getD_fstZ, getD_fstZ, Nat.zero_add] at this
    exact this
  refine ⟨h0, kT M, ?_, hB⟩
  rw [readZ, if_neg (by simp [h0]), hp]
  simp only
  rw [if_pos hok, hpt]
  simp only
  rw [hmt]
theorem mtP_keys (ks : List Int) : ∀ (t : PT) (lo : Nat), t.At lo → lo + t.size ≤ ks.length → keysM id (mtP ks t) = (ks.drop lo).take t.size
  | .nil, lo, _, _ => by simp [mtP, keysM, PT.size]
  | .node p l r, lo, ⟨hp, hl, hr⟩, h => by
    simp only [PT.size] at h
    rw [mtP, keysM, mtP_keys ks l lo hl (by omega), mtP_keys ks r (p + 1) hr (by omega)]
    simp only [PT.size, id_eq]
    apply List.ext_getElem?
    intro j
    rw [List.append_assoc]
    rcases Nat.lt_trichotomy j l.size with hj | hj | hj
    · rw [List.getElem?_append_left (by simp; omega), List.getElem?_take, if_pos hj, List.getElem?_take, if_pos (by omega)]
    · rw [List.getElem?_append_right (by simp; omega)]
      rw [show j - (List.take l.size (List.drop lo ks)).length = 0 from by simp; omega, List.getElem?_take, if_pos (by omega), List.getElem?_drop, show lo + j = p from by omega]
      simp [List.getD_eq_getElem?_getD, List.getElem?_eq_getElem (show p < ks.length by omega)]
    · rw [List.getElem?_append_right (by simp; omega)]
      rw [show j - (List.take l.size (List.drop lo ks)).length = (j - l.size - 1) + 1 from by simp; omega]
      simp only [List.singleton_append, List.getElem?_cons_succ]
      by_cases hj2 : j < l.size + 1 + r.size
      · rw [List.getElem?_take, if_pos (by omega), List.getElem?_take, if_pos hj2, List.getElem?_drop, List.getElem?_drop]
        congr 1; omega
      · rw [List.getElem?_take, if_neg (by omega), List.getElem?_take, if_neg hj2]
theorem mtP_deps (ks : List Int) : ∀ (t : PT) (d : Int), ((mtP ks t).spotsBy id d).map Prod.snd = t.deps d
  | .nil, _ => rfl
  | .node p l r, d => by simp [mtP, MT.spotsBy, PT.deps, mtP_deps ks l, mtP_deps ks r]
theorem pair_ext : ∀ {a b : List IP}, a.map Prod.fst = b.map Prod.fst → a.map Prod.snd = b.map Prod.snd → a = b
  | [], [], _, _ => rfl
  | [], _ :: _, h, _ => by simp at h
  | _ :: _, [], h, _ => by simp at h
  | (a1, a2) :: a, (b1, b2) :: b, h, h' => by
    simp only [List.map_cons, List.cons.injEq] at h h'
    obtain ⟨rfl, h⟩ := h
    obtain ⟨rfl, h'⟩ := h'
    rw [pair_ext h h']
theorem filt_app {k : Int} : ∀ {ks : List Int}, Up ks → ks.filter (fun x => decide (x < k)) ++ ks.filter (fun x => !decide (x < k)) = ks
  | [], _ => rfl
  | y :: t, h => by
    rw [Up, List.pairwise_cons] at h
    by_cases h1 : y < k
    · rw [List.filter_cons, if_pos (by simpa using h1), List.filter_cons, if_neg (by simpa using h1), List.cons_append, filt_app h.2]
    · rw [List.filter_cons, if_neg (by simpa using h1), List.filter_cons, if_pos (by simpa using h1)]
      rw [filter_no (fun x hx => by have := h.1 x hx; simp; omega), filter_all (fun x hx => by have := h.1 x hx; simp; omega)]
      rfl
/-- What is read is the tree of its keys, and its spots are the list. -/
theorem readZ_facts {l : List IP} (h : (readZ l).2 = 0) : ZI (mapZ (readZ l).1) (l.map Prod.fst) ∧ (mapZ (readZ l).1).spotsBy Prod.fst 0 = l ∧ l.length ≤ 200 ∧ (mapZ (readZ l).1).size = l.length ∧ (∀ k ∈ l.map Prod.fst, 0 ≤ k ∧ k ≤ 1000000) := by
  obtain ⟨_, hz⟩ := readZ_size l
  obtain ⟨h0, hsz, hlen⟩ := hz h
  obtain ⟨_, hmr, t, hpt, hpo⟩ := parOf_len l h0
  obtain ⟨hta, hts, hdd⟩ := ptR_to l 0 l.length 0 t (by omega) hpt
  have hup : (parOf l).1 = t.pars (-1) := by rw [hpo]
  have hr : readZ l = (mtP (l.map Prod.fst) t, 0) ∧ okB l (t.pars (-1)) l.length = true := by
    unfold readZ at h ⊢
    rw [if_neg (by simp [h0]), hup] at h ⊢
    split at h
    · next hok => exact ⟨by rw [if_pos hok, hpt], hok⟩
    · simp at h
  obtain ⟨hr, hok⟩ := hr
  have hk : keysM id (mtP (l.map Prod.fst) t) = l.map Prod.fst := by
    rw [mtP_keys _ t 0 hta (by simp; omega), List.drop_zero, List.take_of_length_le (by simp; omega)]
  have hup2 : Up (l.map Prod.fst) := by
    rw [Up, List.pairwise_iff_getElem]
    intro i j hi hj hij
    simp only [List.length_map] at hi hj
    simp only [List.getElem_map]
    exact mapRight_rise l hmr i j hi hj hij
  rw [okB_iff] at hok
  have hhp := (hp_of (l.map Prod.fst) t 0 (-1) hta (.inl (by omega)) (fun j v hj hv h1 h2 => by
    have hg : gI (t.pars (-1)) j = v := by rw [gI, List.getD_eq_getElem?_getD, hv]; rfl
    have := hok j (by omega) (by rw [hg]; exact h1)
    rw [hg] at this
    rw [getD_fstZ, getD_fstZ, Nat.zero_add]; exact this)).1
  rw [hr]
  simp only
  refine ⟨⟨by rw [nd_mapZ, hk], hhp, hup2⟩, ?_, hlen, by rw [mapZ_size, mtP_sizeZ]; omega, fun k hkm => ?_⟩
  · rw [mapZ_spots]
    refine pair_ext (by rw [spotsBy_keys, hk]) ?_
    rw [mtP_deps]
    apply List.ext_getElem?
    intro j
    rw [List.getElem?_map]
    by_cases hj : j < l.length
    · have := hdd j (by omega)
      rw [Nat.zero_add, gv_eq l j hj] at this
      rw [← this, List.getElem?_eq_getElem hj]; rfl
    · rw [List.getElem?_eq_none (by rw [PT.deps_len]; omega), List.getElem?_eq_none (by omega)]; rfl
  · obtain ⟨p, hp, rfl⟩ := List.mem_map.1 hkm
    exact mapRight_in l hmr p hp
/-- Parted and put together again it is as it was; both parts have just their keys. -/
theorem zip_parts {l : List IP} {key : Int} (h : (splitZ l key).2.2 = 0) : mergeZ (splitZ l key).1 (splitZ l key).2.1 = (l, 0) ∧ (parOf (splitZ l key).1).2 = 0 ∧ (parOf (splitZ l key).2.1).2 = 0 ∧ (∀ s ∈ (splitZ l key).1, s.1 < key) ∧ (∀ s ∈ (splitZ l key).2.1, ¬ s.1 < key) := by
  have hr : (readZ l).2 = 0 := by
    unfold splitZ at h
    by_cases hr : (readZ l).2 = 0
    · exact hr
    · rw [if_pos hr] at h; exact h
  have hk : ¬ (key < 0 ∨ 1000000 < key) := fun hk => by
    unfold splitZ at h
    rw [if_neg (by simp [hr]), if_pos hk] at h
    simp at h
  have hs : splitZ l key = ((unz (mapZ (readZ l).1) key).1.spotsBy Prod.fst 0, (unz (mapZ (readZ l).1) key).2.spotsBy Prod.fst 0, 0) := by rw [splitZ, if_neg (by simp [hr]), if_neg hk]
  obtain ⟨z, hsp, hlen, hsz, hin⟩ := readZ_facts hr
  obtain ⟨M, hM⟩ : ∃ M, M = mapZ (readZ l).1 := ⟨_, rfl⟩
  rw [← hM] at hs z hsp hsz
  have hu : UpN (nd M) := by rw [z.nd_]; exact zk_up z.up
  obtain ⟨e1, e2⟩ := nd_unz M key hu
  obtain ⟨i1, i2⟩ := hp_unz M key hu z.hp
  have hus := unz_size M key
  have hn1 : nd (unz M key).1 = ((l.map Prod.fst).filter (fun x => decide (x < key))).map zk := by rw [e1, z.nd_, List.filter_map]; simp [Function.comp_def, zk] <;> rfl
  have hn2 : nd (unz M key).2 = ((l.map Prod.fst).filter (fun x => !decide (x < key))).map zk := by rw [e2, z.nd_, List.filter_map]; simp [Function.comp_def, zk] <;> rfl
  have z1 : ZI (unz M key).1 _ := ⟨hn1, i1, z.up.filter _⟩
  have z2 : ZI (unz M key).2 _ := ⟨hn2, i2, z.up.filter _⟩
  obtain ⟨a0, A, ra, ma⟩ := readZ_spots z1 (by omega) (fun k hk => hin k (List.mem_filter.1 hk).1)
  obtain ⟨b0, B, rb, mb⟩ := readZ_spots z2 (by omega) (fun k hk => hin k (List.mem_filter.1 hk).1)
  have kx : ∀ s ∈ (unz M key).1.spotsBy Prod.fst 0, s.1 < key := fun s hs => by
    have : s.1 ∈ ((unz M key).1.spotsBy Prod.fst 0).map Prod.fst := List.mem_map_of_mem hs
    rw [spotsBy_keys, keysM_ndB, hn1, List.map_map] at this
    obtain ⟨k, hk, e⟩ := List.mem_map.1 this
    have := (List.mem_filter.1 hk).2
    simp only [Function.comp_apply, zk] at e
    rw [← e]; simpa using this
  have ky : ∀ s ∈ (unz M key).2.spotsBy Prod.fst 0, ¬ s.1 < key := fun s hs => by
    have : s.1 ∈ ((unz M key).2.spotsBy Prod.fst 0).map Prod.fst := List.mem_map_of_mem hs
    rw [spotsBy_keys, keysM_ndB, hn2, List.map_map] at this
    obtain ⟨k, hk, e⟩ := List.mem_map.1 this
    have := (List.mem_filter.1 hk).2
    simp only [Function.comp_apply, zk] at e
    rw [← e]; simpa using this
  have hzm : zipM (unz M key).1 (unz M key).2 = M := by
    refine hp_one _ _ ?_ (hp_zip _ _ _ (Nat.le_refl _) i1 i2 (fun x hx y hy => ?_)) z.hp ?_
    · rw [nd_zip _ _ _ (Nat.le_refl _), hn1, hn2, ← List.map_append, filt_app z.up, z.nd_]
    · rw [e1] at hx; rw [e2] at hy
      have h1 := (List.mem_filter.1 hx).2
      have h2 := (List.mem_filter.1 hy).2
      simp at h1 h2; omega
    · rw [nd_zip _ _ _ (Nat.le_refl _), hn1, hn2, ← List.map_append, filt_app z.up]; exact zk_up z.up
  rw [hs]
  simp only
  refine ⟨?_, a0, b0, kx, ky⟩
  have hbad : badZ ((unz M key).1.spotsBy Prod.fst 0) ((unz M key).2.spotsBy Prod.fst 0) = false := by
    unfold badZ
    split
    · next x y hx hy =>
      have h1 := kx x (List.mem_of_getLast? hx)
      have h2 := ky y (List.mem_of_head? hy)
      simp; omega
    · rfl
  rw [mergeZ, if_neg (by simp [a0]), if_neg (by simp [b0]), ra, rb, if_neg (by simp [hbad]), if_neg (by rw [MT.spotsBy_len, MT.spotsBy_len]; omega)]
  simp only
  rw [ma, mb, hzm, hsp]
end Go.Proofs.YtfgbbmjnjppfnaaDoor
namespace Go.Proofs.YtfgbbmjnjppfnaaDoor
open Go.ChangeShapes Go.WideShapes Go.ChangeAt Go.RowKit
set_option linter.unusedVariables false
set_option linter.unusedSimpArgs false

def okL (l : List Int) : Bool := l.all fun e => e == 0
def OkRel (l : List Int) (w : World) (i : Value) (wr : World) : Prop := ∃ k : Nat, k ≤ l.length ∧ i = .int .i64 k ∧ okL (l.drop k) = okL l ∧ w = wr

set_option maxHeartbeats 400000 in
theorem ok_any (l : List Int) (v : Value) (w : World) (hr : RD w eInt v l) : Calls Tryd.prog 27 #[v] w fun e w' => e = .returned (.bool (okL l)) ∧ w = w' := by
  obtain ⟨A, c, rfl, hc, hm⟩ := hr.shape
  have HR := hide hr
  clear hr
  go_enter Tryd.func27, Tryd.ntmps27
  go_wp2
  go_loopw [7] (OkRel l w) (fun i _ => l.length - (intOf i).toNat)
  case atStart => exact ⟨0, by omega, rfl, rfl, rfl⟩
  case round =>
    obtain ⟨k, hk, rfl, hok, rfl⟩ := hrel
    have HO := hide hok
    clear hok
    by_cases hlt : k < l.length
    · obtain ⟨b, o, rfl, hb, c0⟩ := HR.out.int hlt
      have hd : Hid (okL (l.drop k) = (l[k] == 0 && okL (l.drop (k + 1)))) := hide (by rw [List.drop_eq_getElem_cons hlt]; rfl)
      by_cases h0 : l[k] = 0
      · have hn : (l[k] != 0) = false := by simp [h0]
        have hst : Hid (okL (l.drop (k + 1)) = okL l) := hide (by rw [← HO.out, hd.out, h0]; rfl)
        clear h0
        go_wp2
        go_roundw
        case rel => exact ⟨k + 1, by omega, by go_num, hst.out, rfl⟩
        case measure => simp [intOf]; omega
      · have hn : (l[k] != 0) = true := by simp [h0]
        have hst : Hid (okL l = false) := hide (by rw [← HO.out, hd.out]; simp [h0])
        clear h0
        go_wp2
        go_ret
        exact ⟨by rw [hst.out]; rfl, rfl⟩
    · have hst : Hid (okL l = true) := hide (by rw [← HO.out, List.drop_of_length_le (by omega)]; rfl)
      go_wp2
      go_ret
      exact ⟨by rw [hst.out]; rfl, rfl⟩
end Go.Proofs.YtfgbbmjnjppfnaaDoor
namespace Go.Proofs.YtfgbbmjnjppfnaaDoor
open Go.ChangeShapes Go.WideShapes Go.ChangeAt Go.RowKit
set_option linter.unusedVariables false
set_option linter.unusedSimpArgs false

def pO (k : Int) : O3 := (1, k, 0)
theorem info_opZ : (Tryd.prog.info? 58).map (fun i => (i.zero, i.size, i.bytes)) = some (some (.agg #[.int .i64 0, .int .i64 0, .int .i64 0]), 3, 24) := by kernel_rfl
theorem row_opZ : Row Tryd.prog 37 58 eOp 24 := row_of info_opZ Tryd.underlying37 rfl rfl (by decide)
def PaRel (l : List Int) (w : World) (ov iv : Value) (wr : World) : Prop := ∃ k : Nat, k ≤ l.length ∧ iv = .int .i64 k ∧ OW wr w.heap.size 58 eOp ov ((l.take k).map pO) ∧ Kp w wr
set_option maxRecDepth 100000 in
set_option maxHeartbeats 1000000 in
theorem putAll_any (l : List Int) (v : Value) (w : World) (hr : RD w eInt v l) (hn : l.length ≤ 1000000) : Calls Tryd.prog 26 #[v] w (RetOW 58 eOp (l.map pO) w) := by
  obtain ⟨A, c, rfl, hc, hm⟩ := hr.shape
  have HR := hide hr
  clear hr
  go_enter Tryd.func26, Tryd.ntmps26
  go_wp2
  go_loopw [3, 8] (PaRel l w) (fun _ i _ => l.length - (intOf i).toNat)
  case atStart => exact ⟨0, by omega, rfl, OW.nil, Kp.refl _⟩
  case round =>
    obtain ⟨k, hk, rfl, ho, hkp⟩ := hrel
    have hi := ho.hi
    have HO := hide ho
    by_cases hlt : k < l.length
    · obtain ⟨b, o, rfl, _, x0⟩ := (HR.out.kp hkp).int hlt
      obtain ⟨y, hy⟩ : ∃ y, y = l[k] := ⟨_, rfl⟩
      rw [← hy] at x0
      have HN : Hid ((l.take k).map pO ++ [((1, y, 0) : O3)] = (l.take (k + 1)).map pO) := hide (by rw [List.take_succ_eq_append_getElem hlt, List.map_append, hy]; rfl)
      have HM1 : Hid ((((l.take k).map pO).length + [((1, y, 0) : O3)].length) * 24 ≤ 140737488355328) := hide (by simp; omega)
      have HM2 : Hid (((l.take k).map pO).length + [((1, y, 0) : O3)].length ≤ maxLen) := hide (by simp [maxLen]; omega)
      clear hy ho
      go_wp2_with (at_builtin; (with_reducible refine list_app (B := w.heap.size) (l := (l.take k).map pO) (m := [((1, y, 0) : O3)]) row_opZ u3 ?_ (.tmp 12) (.tmp 15) ?_ ?_ ?_ ?_ HM1.out HM2.out ?_ ?_); (with_reducible rfl); (with_reducible rfl); rfl; (exact HO.out.alloc _); (show RD _ _ (.slice (some ⟨_, 0, none⟩) 1 1) _; (focus ((repeat (first | (with_reducible assumption) | exact RD.new1 _ rfl | (refine RD.new1e _ ?_ rfl; simp; done) | (with_reducible apply RD.alloc) | (with_reducible apply RD.drew) | (with_reducible apply RD.drewN) | ((with_reducible apply RD.belowR); (with_reducible assumption)))); done))); (have := hkp.size; simp; omega); intro v3 w3 ho3 hg3 hat3)
      go_roundw
      case rel => exact ⟨k + 1, by omega, by go_num, by rw [← HN.out]; exact ho3, Kp.app hg3 hkp.alloc hi⟩
      case measure => simp [intOf]; omega
    · have hkl : Hid ((l.take k).map pO = l.map pO) := hide (by rw [List.take_of_length_le (by omega)])
      clear ho
      go_wp2
      go_ret
      exact ⟨_, rfl, by rw [← hkl.out]; exact HO.out, hkp.bel⟩

theorem zipLives_run : zipRun [(1, 0, 0), (1, 5, 0)] = ([(0, 0), (5, 1)], [⟨0, 0, 0, false⟩, ⟨0, 0, 0, false⟩], 0) := by decide +kernel
theorem zipLives_split : splitZ [(0, 0), (5, 1)] 5 = ([(0, 0)], [(5, 0)], 0) := by decide +kernel
theorem zipLives_ra : readZ [(0, 0)] = (.node 0 .nil .nil, 0) := by kernel_rfl
theorem zipLives_rb : readZ [(5, 0)] = (.node 5 .nil .nil, 0) := by kernel_rfl
theorem zipLives_ov : ov (zk 0) (zk 5) = true := by decide +kernel
theorem zipLives_merge : mergeZ [(0, 0)] [(5, 0)] = ([(0, 0), (5, 1)], 0) := by
  rw [mergeZ, if_neg (by decide +kernel), if_neg (by decide +kernel), zipLives_ra, zipLives_rb, if_neg (by decide), if_neg (by decide)]
  simp only [mapZ]
  rw [zipM_node, if_pos zipLives_ov, zipM]
  rfl
theorem okL_ok3Z : okL [0, 0, 0] = true := rfl
set_option maxRecDepth 100000 in
set_option maxHeartbeats 4000000 in
theorem zipLives_any (w : World) (hdb : DTb w) : Calls Tryd.prog 21 #[] w (Ret (.bool true) w) := by
  have H0 := hide (fun W v h => putAll_any [0, 5] v W h (by simp))
  have H1 := hide (fun W v h hd => zipRun_any [(1, 0, 0), (1, 5, 0)] v W h hd)
  have H2 := hide (fun W v h hd => zipSplit_any [(0, 0), (5, 1)] 5 v W h hd)
  have H3 := hide (fun W v u h1 h2 hd => zipMerge_any [(0, 0)] [(5, 0)] v u W h1 h2 hd)
  rw [show [0, 5].map pO = [((1, 0, 0) : O3), (1, 5, 0)] from rfl] at H0
  rw [zipLives_run] at H1
  rw [zipLives_split] at H2
  rw [zipLives_merge] at H3
  have HDB := hide hdb
  clear hdb
  go_enter Tryd.func21, Tryd.ntmps21
  go_wp2_with fail
  refine (H0.out _ _ (RD.block (l := [0, 5]) (heap_alloc_new w _) rfl (by simp [maxLen]))).mono ?_
  rintro e w1 ⟨v1, rfl, ho1, hb1⟩
  have kk1 : Kp w w1 := (Kp.refl w).alloc.trans (Kp.of hb1)
  have HR1 := hide ho1.rd
  clear ho1 hb1
  go_wp2_with fail
  with_reducible refine (H1.out _ _ HR1.out (HDB.out.kp kk1)).mono ?_
  rintro e w2 ⟨v2, u2, rfl, hr2, hu2, hb2⟩
  have kk2 : Kp w1 w2 := Kp.of hb2
  have HR2 := hide hr2
  obtain ⟨A2, c2, rfl, _, _⟩ := hu2.shape
  clear hr2 hu2 hb2
  go_wp2_with fail
  with_reducible refine (H2.out _ _ HR2.out (HDB.out.kp (kk1.trans kk2))).mono ?_
  rintro e w3 ⟨v3, u3, rfl, hr3, hu3, hb3⟩
  have kk3 : Kp w2 w3 := Kp.of hb3
  have HR3 := hide hr3
  have HU3 := hide hu3
  clear hr3 hu3 hb3
  go_wp2_with fail
  with_reducible refine (H3.out _ _ _ HR3.out HU3.out (HDB.out.kp (kk1.trans (kk2.trans kk3)))).mono ?_
  rintro e w4 ⟨v4, rfl, hr4, hb4⟩
  have kk4 : Kp w3 w4 := Kp.of hb4
  have HR4 := hide hr4
  clear hr4 hb4
  go_wp2_with fail
  refine (ok_any [0, 0, 0] _ _ (RD.block (l := [0, 0, 0]) (heap_alloc_new w4 _) rfl (by simp [maxLen]))).mono ?_
  rintro e w5 ⟨rfl, hw5⟩
  have kk5 : Kp w4 w5 := by rw [← hw5]; exact (Kp.refl w4).alloc
  clear hw5
  have hok := okL_ok3Z
  go_wp2_with fail
  refine (eqSpots_to _ _ true _ _ _ ((HR2.out.kp (kk3.trans (kk4.trans kk5))).alloc _) (RD.block (l := [(0, 0), (5, 1)]) (heap_alloc_new w5 _) rfl (by simp [maxLen])) (by decide)).mono ?_
  rintro e w6 ⟨rfl, hb6⟩
  have kk6 : Kp w5 w6 := (Kp.refl w5).alloc.trans (Kp.of hb6)
  clear hb6
  go_wp2_with fail
  refine (eqSpots_to _ _ true _ _ _ ((HR3.out.kp (kk4.trans (kk5.trans kk6))).alloc _) (RD.block (l := [(0, 0)]) (heap_alloc_new w6 _) rfl (by simp [maxLen])) (by decide)).mono ?_
  rintro e w7 ⟨rfl, hb7⟩
  have kk7 : Kp w6 w7 := (Kp.refl w6).alloc.trans (Kp.of hb7)
  clear hb7
  go_wp2_with fail
  refine (eqSpots_to _ _ true _ _ _ ((HU3.out.kp (kk4.trans (kk5.trans (kk6.trans kk7)))).alloc _) (RD.block (l := [(5, 0)]) (heap_alloc_new w7 _) rfl (by simp [maxLen])) (by decide)).mono ?_
  rintro e w8 ⟨rfl, hb8⟩
  have kk8 : Kp w7 w8 := (Kp.refl w7).alloc.trans (Kp.of hb8)
  clear hb8
  go_wp2_with fail
  refine (eqSpots_to _ _ true _ _ _ (HR4.out.kp (kk5.trans (kk6.trans (kk7.trans kk8)))) (HR2.out.kp (kk3.trans (kk4.trans (kk5.trans (kk6.trans (kk7.trans kk8)))))) (by decide)).mono ?_
  rintro e w9 ⟨rfl, hb9⟩
  have kk9 : Kp w8 w9 := Kp.of hb9
  clear hb9
  go_wp2
  go_ret
  exact ⟨rfl, (kk1.trans (kk2.trans (kk3.trans (kk4.trans (kk5.trans (kk6.trans (kk7.trans (kk8.trans kk9)))))))).bel⟩
end Go.Proofs.YtfgbbmjnjppfnaaDoor
namespace Go.Proofs.YtfgbbmjnjppfnaaDoor
open Go.ChangeShapes Go.WideShapes Go.ChangeAt Go.RowKit
set_option linter.unusedVariables false
set_option linter.unusedSimpArgs false

def ZbRel (n : Nat) (w : World) (iv : Value) (wr : World) : Prop := ∃ k : Nat, k ≤ n ∧ iv = .int .i64 k ∧ Kp w wr
set_option maxRecDepth 100000 in
set_option maxHeartbeats 8000000 in
theorem zipBack_walk (l : List IP) (key : Int) (v : Value) (w : World) (hr : RD w ePair v l) (hkey : -9223372036854775808 ≤ key ∧ key ≤ 9223372036854775807) (hdb : DTb w) : Calls Tryd.prog 5 #[v, .int .i64 key] w (Ret (.bool true) w) := by
  obtain ⟨A, c, rfl, hc, hm⟩ := hr.shape
  have HR := hide hr
  have HDB := hide hdb
  have HSP := hide (fun W v h hd => zipSplit_any l key v W h hd)
  clear hr hkey hdb
  by_cases h0 : (splitZ l key).2.2 = 0
  · obtain ⟨hmg, hpx, hpy, hx, hy⟩ := zip_parts h0
    obtain ⟨⟨X, Y, er⟩, hP⟩ : ∃ P, P = splitZ l key := ⟨_, rfl⟩
    rw [← hP] at HSP h0 hmg hpx hpy hx hy
    simp only at h0 hmg hpx hpy hx hy
    subst h0
    have HMG := hide (fun W v u h1 h2 hd => zipMerge_any X Y v u W h1 h2 hd)
    rw [hmg] at HMG
    have HCX := hide (fun W v h => shapeCheck_any X v W h)
    have HCY := hide (fun W v h => shapeCheck_any Y v W h)
    rw [hpx] at HCX
    rw [hpy] at HCY
    have HX : Hid (∀ k (h : k < X.length), X[k].1 < key) := hide (fun k h => hx _ (List.getElem_mem h))
    have HY : Hid (∀ k (h : k < Y.length), ¬ Y[k].1 < key) := hide (fun k h => hy _ (List.getElem_mem h))
    clear hP hmg hpx hpy hx hy
    go_enter Tryd.func5, Tryd.ntmps5
    go_wp2_with fail
    with_reducible refine (HSP.out _ _ HR.out HDB.out).mono ?_
    rintro e w1 ⟨v1, u1, rfl, hr1, hu1, hb1⟩
    have kk1 : Kp w w1 := Kp.of hb1
    obtain ⟨A1, c1, rfl, _, _⟩ := hr1.shape
    obtain ⟨B1, d1, rfl, _, _⟩ := hu1.shape
    have HX1 := hide hr1
    have HY1 := hide hu1
    clear hr1 hu1 hb1
    go_wp2_with fail
    with_reducible refine (zipLives_any _ (HDB.out.kp kk1)).mono ?_
    rintro e w2 ⟨rfl, hb2⟩
    have kk2 := Kp.of hb2
    clear hb2
    go_wp2_with fail
    with_reducible refine (HMG.out _ _ _ (HX1.out.kp kk2) (HY1.out.kp kk2) (HDB.out.kp (kk1.trans kk2))).mono ?_
    rintro e w3 ⟨v3, rfl, hr3, hb3⟩
    have kk3 : Kp w2 w3 := Kp.of hb3
    have HR3 := hide hr3
    clear hr3 hb3
    go_wp2_with fail
    with_reducible refine (eqSpots_to l l true _ _ _ HR3.out (HR.out.kp (kk1.trans (kk2.trans kk3))) (by simp)).mono ?_
    rintro e w4 ⟨rfl, hb4⟩
    have kk4 : Kp w3 w4 := Kp.of hb4
    clear hb4
    go_wp2_with fail
    with_reducible refine (HCX.out _ _ (HX1.out.kp (kk2.trans (kk3.trans kk4)))).mono ?_
    rintro e w5 ⟨rfl, hb5⟩
    have kk5 : Kp w4 w5 := Kp.of hb5
    clear hb5
    go_wp2_with fail
    with_reducible refine (HCY.out _ _ (HY1.out.kp (kk2.trans (kk3.trans (kk4.trans kk5))))).mono ?_
    rintro e w6 ⟨rfl, hb6⟩
    have kk6 : Kp w5 w6 := Kp.of hb6
    have K16 : Kp w1 w6 := kk2.trans (kk3.trans (kk4.trans (kk5.trans kk6)))
    have K6 : Kp w w6 := kk1.trans K16
    have HX6 := hide (HX1.out.kp K16)
    have HY6 := hide (HY1.out.kp K16)
    clear hb6 kk1 kk2 kk3 kk4 kk5 kk6 K16
    go_wp2
    go_loopw [62] (ZbRel X.length w6) (fun i _ => X.length - (intOf i).toNat)
    case atStart => exact ⟨0, by omega, rfl, Kp.refl _⟩
    case round =>
      obtain ⟨k, hk, rfl, hkp⟩ := hrel
      by_cases hlt : k < X.length
      · obtain ⟨b, o, rfl, _, x0, x1⟩ := (HX6.out.kp hkp).pair hlt
        have hlx := HX.out k hlt
        obtain ⟨y, hy⟩ : ∃ y, y = X[k].1 := ⟨_, rfl⟩
        rw [← hy] at x0 hlx
        have e1 : decide (key ≤ y) = false := by simp; omega
        clear hy hlx
        go_wp2
        go_roundw
        case rel => exact ⟨k + 1, by omega, by go_num, (by (focus ((repeat (first | (with_reducible assumption) | (with_reducible exact Kp.refl _) | (with_reducible apply Kp.drew) | (with_reducible apply Kp.drewN) | ((with_reducible apply Kp.setR); (focus (first | (with_reducible assumption) | (simp; done) | (simp; omega)))) | (with_reducible apply Kp.alloc) | ((with_reducible apply Kp.call); (with_reducible assumption)) | ((with_reducible apply Kp.app); (with_reducible assumption)))); done)))⟩
        case measure => simp [intOf]; omega
      · go_wp2
        go_loopw [73] (ZbRel Y.length wr) (fun i _ => Y.length - (intOf i).toNat)
        case atStart => exact ⟨0, by omega, rfl, Kp.refl _⟩
        case round =>
          obtain ⟨j, hj, rfl, hkp2⟩ := hrel
          by_cases hltj : j < Y.length
          · obtain ⟨b, o, rfl, _, x0, x1⟩ := (HY6.out.kp (hkp.trans hkp2)).pair hltj
            have hly := HY.out j hltj
            obtain ⟨y, hy⟩ : ∃ y, y = Y[j].1 := ⟨_, rfl⟩
            rw [← hy] at x0 hly
            have e1 : decide (y < key) = false := by simp; omega
            clear hy hly
            go_wp2
            go_roundw
            case rel => exact ⟨j + 1, by omega, by go_num, (by (focus ((repeat (first | (with_reducible assumption) | (with_reducible exact Kp.refl _) | (with_reducible apply Kp.drew) | (with_reducible apply Kp.drewN) | ((with_reducible apply Kp.setR); (focus (first | (with_reducible assumption) | (simp; done) | (simp; omega)))) | (with_reducible apply Kp.alloc) | ((with_reducible apply Kp.call); (with_reducible assumption)) | ((with_reducible apply Kp.app); (with_reducible assumption)))); done)))⟩
            case measure => simp [intOf]; omega
          · go_wp2
            go_ret
            exact ⟨by simp, (K6.trans (hkp.trans hkp2)).bel⟩
  · have hs : (splitZ l key).1 = [] ∧ (splitZ l key).2.1 = [] := by
      unfold splitZ at h0 ⊢
      split
      · exact ⟨rfl, rfl⟩
      · split
        · exact ⟨rfl, rfl⟩
        · next h1 h2 => rw [if_neg h1, if_neg h2] at h0; exact absurd rfl h0
    obtain ⟨⟨X, Y, er⟩, hP⟩ : ∃ P, P = splitZ l key := ⟨_, rfl⟩
    rw [← hP] at HSP h0 hs
    simp only at h0 hs
    obtain ⟨rfl, rfl⟩ := hs
    have b0 : (er != 0) = true := by simpa using h0
    clear hP h0
    go_enter Tryd.func5, Tryd.ntmps5
    go_wp2_with fail
    with_reducible refine (HSP.out _ _ HR.out HDB.out).mono ?_
    rintro e w1 ⟨v1, u1, rfl, hr1, hu1, hb1⟩
    have kk1 : Kp w w1 := Kp.of hb1
    obtain ⟨A1, c1, rfl, _, _⟩ := hr1.shape
    obtain ⟨B1, d1, rfl, _, _⟩ := hu1.shape
    clear hr1 hu1 hb1
    go_wp2_with fail
    with_reducible refine (zipLives_any _ (HDB.out.kp kk1)).mono ?_
    rintro e w2 ⟨rfl, hb2⟩
    have kk2 := Kp.of hb2
    clear hb2
    go_wp2_with fail
    with_reducible refine (zipLives_any _ (HDB.out.kp (kk1.trans kk2))).mono ?_
    rintro e w3 ⟨rfl, hb3⟩
    have kk3 := Kp.of hb3
    clear hb3
    go_wp2
    go_ret
    exact ⟨by simp, (kk1.trans (kk2.trans kk3)).bel⟩
end Go.Proofs.YtfgbbmjnjppfnaaDoor
