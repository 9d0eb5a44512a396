/-
  The plain law of heap.built: who stands next above, by the stack, is who stands next above in hedgref.HeapTree. No program. Conditions: none.
-/
import Derived.Test.YthbapflabjogkaaHeapOneM20
import Derived.Test.YthbapflabjogkaaHeapOneM13

namespace Go.Proofs.Ythbapflabjogkaa
open Go.ChangeShapes Go.WideShapes Go.ChangeAt Go.RowKit
set_option linter.unusedVariables false
set_option linter.unusedSimpArgs false

def PT.spine : PT → List Nat
  | .nil => []
  | .node p l r => r.spine ++ [p]
/-- No one below ranks higher. -/
def PT.ord (v : Nat → Int) : PT → Prop
  | .nil => True
  | .node p l r => l.ord v ∧ r.ord v ∧ (∀ q ∈ r.spine, v q ≤ v p)
def PT.ins (v : Nat → Int) (n : Nat) : PT → PT
  | .nil => .node n .nil .nil
  | .node p l r => if v p < v n then .node n (.node p l r) .nil else .node p l (r.ins v n)
theorem PT.ins_size (v : Nat → Int) (n : Nat) : ∀ t : PT, (t.ins v n).size = t.size + 1
  | .nil => rfl
  | .node p l r => by
    unfold ins
    split
    · simp [size]
    · simp [size, ins_size v n r]; omega

/-- popL by a value function. -/
def popV (v : Nat → Int) (x : Int) : List Nat → Int → List Nat × Int
  | [], last => ([], last)
  | t :: es, last => if v t < x then popV v x es t else (t :: es, last)
theorem popL_popV (l : List IP) (x : Int) : ∀ (st : List Nat) (last : Int), popL l x st last = popV (gv l) x st last
  | [], _ => rfl
  | t :: es, last => by unfold popL popV; split <;> simp [popL_popV l x es]
theorem popV_all (v : Nat → Int) (x : Int) : ∀ (s rest : List Nat) (last : Int), (∀ q ∈ s, v q < x) → popV v x (s ++ rest) last = popV v x rest (match s.getLast? with | some t => (t : Int) | none => last)
  | [], rest, last, _ => by simp
  | a :: s, rest, last, h => by
    rw [List.cons_append, popV, if_pos (h a (by simp)), popV_all v x s rest a (fun q hq => h q (by simp [hq]))]
    congr 1
    cases s with
    | nil => simp
    | cons b s =>
      rw [List.getLast?_cons_cons]
      cases h : (b :: s).getLast? with
      | none => simp at h
      | some t => rfl
theorem popV_stop (v : Nat → Int) (x : Int) (rest : List Nat) (last : Int) (h : ∀ t es, rest = t :: es → ¬ v t < x) : popV v x rest last = (rest, last) := by
  cases rest with
  | nil => rfl
  | cons t es => rw [popV, if_neg (h t es rfl)]

/-- What the step does to the list of those above: at the new place hd of what is left; of the last one popped: the new place. -/
def fix (L : List Int) (off n : Nat) (up last : Int) : List Int := if 0 ≤ last then (L ++ [up]).set (last.toNat - off) n else L ++ [up]

theorem ins_step (v : Nat → Int) (n : Nat) : ∀ (t : PT) (off : Nat) (rest : List Nat), t.ord v → t.At off → n = off + t.size → (∀ q es, rest = q :: es → ¬ v q < v n) →
    ∃ st last, popV v (v n) (t.spine ++ rest) (-1) = (st, last) ∧ (t.ins v n).spine ++ rest = n :: st ∧ (t.ins v n).At off ∧ (t.ins v n).pars (hd rest) = fix (t.pars (hd rest)) off n (hd st) last ∧ (0 ≤ last → off ≤ last.toNat ∧ last.toNat < n)
  | .nil, off, rest, ho, ha, hn, hr => by
    refine ⟨rest, -1, ?_, by simp [PT.ins, PT.spine], ?_, ?_, by omega⟩
    · simp only [PT.spine, List.nil_append]; exact popV_stop v _ rest _ hr
    · simp [PT.ins, PT.At, PT.size] at *; omega
    · simp [PT.ins, PT.pars, fix]
  | .node p l r, off, rest, ⟨hl, hr', hs⟩, ⟨hp, hal, har⟩, hn, hr => by
    by_cases hlt : v p < v n
    · have hall : ∀ q ∈ (PT.node p l r).spine, v q < v n := by
        intro q hq
        simp only [PT.spine, List.mem_append, List.mem_singleton] at hq
        rcases hq with hq | rfl
        · have := hs q hq; omega
        · exact hlt
      have hpop := popV_all v (v n) (PT.node p l r).spine rest (-1) hall
      have hlast : (match (PT.node p l r).spine.getLast? with | some t => (t : Int) | none => -1) = (p : Int) := by simp [PT.spine]
      rw [hlast, popV_stop v _ rest _ hr] at hpop
      refine ⟨rest, p, hpop, by simp [PT.ins, hlt, PT.spine], ?_, ?_, ?_⟩
      · simp only [PT.ins, if_pos hlt, PT.At, PT.size] at *
        exact ⟨hn, ⟨hp, hal, har⟩, trivial⟩
      · simp only [PT.ins, if_pos hlt, PT.pars, fix, if_pos (Int.natCast_nonneg p), Int.toNat_natCast, List.append_nil]
        have hpl : (l.pars (p : Int)).length = p - off := by rw [PT.pars_len]; omega
        have e : l.pars (p : Int) ++ [hd rest] ++ r.pars (p : Int) ++ [hd rest] = l.pars (p : Int) ++ (hd rest :: (r.pars (p : Int) ++ [hd rest])) := by simp
        rw [e, List.set_append_right _ _ (by omega), hpl, Nat.sub_self, List.set_cons_zero]
        simp
      · intro _
        simp only [Int.toNat_natCast, PT.size] at *
        omega
    · have hn' : n = p + 1 + r.size := by simp only [PT.size] at hn; omega
      obtain ⟨st, last, h1, h2, h3, h4, h5⟩ := ins_step v n r (p + 1) (p :: rest) hr' har hn' (fun q es e => by injection e with e1 _; subst e1; exact hlt)
      refine ⟨st, last, ?_, ?_, ?_, ?_, fun h => ⟨by have := h5 h; omega, (h5 h).2⟩⟩
      · simpa [PT.spine] using h1
      · simpa [PT.ins, hlt, PT.spine] using h2
      · simp only [PT.ins, if_neg hlt, PT.At]
        exact ⟨hp, hal, h3⟩
      · simp only [PT.ins, if_neg hlt, PT.pars]
        have h4' : (r.ins v n).pars (p : Int) = fix (r.pars (p : Int)) (p + 1) n (hd st) last := h4
        rw [h4']
        unfold fix
        split
        · rename_i h0
          obtain ⟨h6, h7⟩ := h5 h0
          have hpl : (l.pars (p : Int) ++ [hd rest]).length = p + 1 - off := by rw [List.length_append, PT.pars_len]; simp; omega
          have e : l.pars (p : Int) ++ [hd rest] ++ r.pars (p : Int) ++ [hd st] = (l.pars (p : Int) ++ [hd rest]) ++ (r.pars (p : Int) ++ [hd st]) := by simp
          have e3 : ((l.pars (p : Int) ++ [hd rest]) ++ (r.pars (p : Int) ++ [hd st])).set (last.toNat - off) (n : Int) = (l.pars (p : Int) ++ [hd rest]) ++ (r.pars (p : Int) ++ [hd st]).set (last.toNat - (p + 1)) (n : Int) := by
            rw [List.set_append_right _ _ (by omega), hpl]
            congr 2
            omega
          rw [e, e3]
        · simp

/-! The tree of places of a list. -/
theorem amax_last (l : List IP) : ∀ m k a, amax l (m + 1) k a = (if (l.getD (amax l m k a) (0, 0)).2 < (l.getD (k + m) (0, 0)).2 then k + m else amax l m k a)
  | 0, k, a => by simp [amax]
  | m + 1, k, a => by
    rw [amax, amax_last l m (k + 1), show k + 1 + m = k + (m + 1) from by omega]
    rfl
theorem amax_append (l : List IP) (x : IP) : ∀ m k a, k + m ≤ l.length → a < l.length → amax (l ++ [x]) m k a = amax l m k a
  | 0, _, _, _, _ => rfl
  | m + 1, k, a, h, ha => by
    have e1 : (l ++ [x]).getD a (0, 0) = l.getD a (0, 0) := by simp [List.getD_eq_getElem?_getD, List.getElem?_append_left ha]
    have e2 : (l ++ [x]).getD k (0, 0) = l.getD k (0, 0) := by simp [List.getD_eq_getElem?_getD, List.getElem?_append_left (show k < l.length by omega)]
    rw [amax, amax, e1, e2]
    split
    · exact amax_append l x m (k + 1) k (by omega) (by omega)
    · exact amax_append l x m (k + 1) a (by omega) ha
theorem top_snoc (l : List IP) (x : IP) (h : l ≠ []) : top (l ++ [x]) = if (l[top l]'(top_lt l h)).2 < x.2 then l.length else top l := by
  have h0 := List.length_pos_iff.2 h
  have ht := top_lt l h
  unfold top at ht ⊢
  rw [List.length_append, List.length_singleton, amax_last, amax_append l x _ _ _ (by omega) h0]
  have e1 : (l ++ [x]).getD (amax l l.length 0 0) (0, 0) = l[amax l l.length 0 0] := by simp [List.getD_eq_getElem?_getD, List.getElem?_append_left ht, List.getElem?_eq_getElem ht]
  have e2 : (l ++ [x]).getD (0 + l.length) (0, 0) = x := by simp [List.getD_eq_getElem?_getD]
  rw [e1, e2, Nat.zero_add]
  rfl
theorem amax_ge (l : List IP) : ∀ m k a, k + m ≤ l.length → a < l.length → (∀ j, j < k → (l.getD j (0, 0)).2 ≤ (l.getD a (0, 0)).2) → ∀ j, j < k + m → (l.getD j (0, 0)).2 ≤ (l.getD (amax l m k a) (0, 0)).2
  | 0, k, a, _, _, h, j, hj => h j hj
  | m + 1, k, a, hk, ha, h, j, hj => by
    rw [amax]
    split
    · rename_i hlt
      exact amax_ge l m (k + 1) k (by omega) (by omega) (fun i hi => by
        rcases Nat.lt_or_ge i k with h1 | h1
        · have := h i h1; omega
        · obtain rfl : i = k := by omega
          omega) j (by omega)
    · rename_i hlt
      exact amax_ge l m (k + 1) a (by omega) ha (fun i hi => by
        rcases Nat.lt_or_ge i k with h1 | h1
        · exact h i h1
        · obtain rfl : i = k := by omega
          omega) j (by omega)
theorem top_ge (l : List IP) (h : l ≠ []) (j : Nat) (hj : j < l.length) : l[j].2 ≤ (l[top l]'(top_lt l h)).2 := by
  have := amax_ge l l.length 0 0 (by omega) (List.length_pos_iff.2 h) (fun j hj => by omega) j (by omega)
  have ht := top_lt l h
  unfold top at ht ⊢
  simp only [List.getD_eq_getElem?_getD, List.getElem?_eq_getElem hj, List.getElem?_eq_getElem ht, Option.getD_some] at this
  exact this

def ptree (l : List IP) (off : Nat) : PT :=
  if h : l = [] then .nil
  else
    have := top_lt l h
    .node (off + top l) (ptree (l.take (top l)) off) (ptree (l.drop (top l + 1)) (off + top l + 1))
termination_by l.length
decreasing_by
  · simp; omega
  · simp; omega
theorem ptree_nil (off : Nat) : ptree [] off = .nil := by rw [ptree]; simp
theorem ptree_cons (l : List IP) (off : Nat) (h : l ≠ []) : ptree l off = .node (off + top l) (ptree (l.take (top l)) off) (ptree (l.drop (top l + 1)) (off + top l + 1)) := by
  rw [ptree, dif_neg h]
theorem ptree_size (l : List IP) (off : Nat) : (ptree l off).size = l.length := by
  by_cases h : l = []
  · subst h; rw [ptree_nil]; rfl
  · have hl := top_lt l h
    rw [ptree_cons l off h, PT.size, ptree_size (l.take (top l)), ptree_size (l.drop (top l + 1))]
    simp; omega
termination_by l.length
decreasing_by
  · simp; omega
  · simp; omega
theorem ptree_at (l : List IP) (off : Nat) : (ptree l off).At off := by
  by_cases h : l = []
  · subst h; rw [ptree_nil]; trivial
  · have hl := top_lt l h
    rw [ptree_cons l off h]
    refine ⟨?_, ptree_at _ _, ptree_at _ _⟩
    rw [ptree_size]; simp; omega
termination_by l.length
decreasing_by
  · simp; omega
  · simp; omega
theorem PT.spine_in : ∀ (t : PT) (off : Nat), t.At off → ∀ q ∈ t.spine, off ≤ q ∧ q < off + t.size
  | .nil, _, _, q, hq => by simp [spine] at hq
  | .node p l r, off, ⟨h1, h2, h3⟩, q, hq => by
    simp only [spine, List.mem_append, List.mem_singleton] at hq
    simp only [size]
    rcases hq with hq | rfl
    · have := spine_in r (p + 1) h3 q hq; omega
    · omega
theorem ptree_ord (v : Nat → Int) (l : List IP) (off : Nat) (hv : ∀ i (h : i < l.length), v (off + i) = l[i].2) : (ptree l off).ord v := by
  by_cases h : l = []
  · subst h; rw [ptree_nil]; trivial
  · have hl := top_lt l h
    rw [ptree_cons l off h]
    refine ⟨ptree_ord v _ _ fun i hi => ?_, ptree_ord v _ _ fun i hi => ?_, fun q hq => ?_⟩
    · simp at hi
      rw [hv i (by omega)]; simp
    · simp at hi
      rw [show off + top l + 1 + i = off + (top l + 1 + i) from by omega, hv _ (by omega)]; simp
    · obtain ⟨h1, h2⟩ := PT.spine_in _ _ (ptree_at _ _) q hq
      rw [ptree_size] at h2
      simp at h2
      obtain ⟨i, rfl⟩ : ∃ i, q = off + i := ⟨q - off, by omega⟩
      rw [hv i (by omega), hv _ hl]
      exact top_ge l h i (by omega)
termination_by l.length
decreasing_by
  · simp; omega
  · simp; omega
theorem ptree_snoc (v : Nat → Int) (n : Nat) (x : IP) (hx : v n = x.2) (l : List IP) (off : Nat) (hn : n = off + l.length) (hv : ∀ i (h : i < l.length), v (off + i) = l[i].2) : ptree (l ++ [x]) off = (ptree l off).ins v n := by
  by_cases h : l = []
  · subst h
    rw [ptree_nil, List.nil_append, ptree_cons _ _ (by simp)]
    have ht : top [x] = 0 := by simp [top, amax]
    rw [ht]
    simp [ptree_nil, PT.ins, hn]
  · have hl := top_lt l h
    have hts := top_snoc l x h
    rw [ptree_cons l off h, ptree_cons (l ++ [x]) off (by simp), PT.ins, hv _ hl, hx]
    by_cases hlt : (l[top l]'hl).2 < x.2
    · rw [if_pos hlt] at hts
      rw [if_pos hlt, hts, ← hn]
      have e1 : (l ++ [x]).take l.length = l := by simp
      have e2 : (l ++ [x]).drop (l.length + 1) = [] := by simp
      rw [e1, e2, ptree_nil, ← ptree_cons l off h]
    · rw [if_neg hlt] at hts
      rw [if_neg hlt, hts]
      have e1 : (l ++ [x]).take (top l) = l.take (top l) := by rw [List.take_append_of_le_length (by omega)]
      have e2 : (l ++ [x]).drop (top l + 1) = l.drop (top l + 1) ++ [x] := by rw [List.drop_append_of_le_length (by omega)]
      rw [e1, e2]
      congr 1
      refine ptree_snoc v n x hx _ _ (by simp; omega) fun i hi => ?_
      simp at hi
      rw [show off + top l + 1 + i = off + (top l + 1 + i) from by omega, hv _ (by omega)]; simp
termination_by l.length
decreasing_by
  simp; omega

/-- The run of heap.built, in words of the tree of places. -/
theorem bRun_tree (l : List IP) : ∀ k, k ≤ l.length → (bRun l k).1 = (ptree (l.take k) 0).spine ∧ (bRun l k).2 = (ptree (l.take k) 0).pars (-1) ++ List.replicate (l.length - k) 0
  | 0, _ => by simp [bRun, ptree_nil, PT.spine, PT.pars]
  | k + 1, hk => by
    obtain ⟨h1, h2⟩ := bRun_tree l k (by omega)
    have hlk : (l.take k).length = k := by simp; omega
    have hv : ∀ i (h : i < (l.take k).length), gv l (0 + i) = (l.take k)[i].2 := fun i h => by
      rw [Nat.zero_add, gv_eq l i (by omega)]; simp
    have hsn := ptree_snoc (gv l) k (l[k]'(by omega)) (gv_eq l k (by omega)) (l.take k) 0 (by omega) hv
    rw [← List.take_succ_eq_append_getElem (by omega)] at hsn
    obtain ⟨st, last, h3, h4, h5, h6, h7⟩ := ins_step (gv l) k (ptree (l.take k) 0) 0 [] (ptree_ord _ _ _ hv) (ptree_at _ _) (by rw [ptree_size]; omega) (fun q es e => by cases e)
    rw [List.append_nil] at h3 h4
    have hpop : popL l (gv l k) (bRun l k).1 (-1) = (st, last) := by rw [popL_popV, h1]; exact h3
    have hst : bRun l (k + 1) = (k :: st, upTo (bRun l k).2 k (st, last)) := by
      show bStep l (bRun l k) k = _
      simp only [bStep, hpop]
    rw [hst, hsn]
    refine ⟨h4.symm, ?_⟩
    have h6' : ((ptree (l.take k) 0).ins (gv l) k).pars (-1) = fix ((ptree (l.take k) 0).pars (-1)) 0 k (hd st) last := h6
    rw [h6', h2]
    have hpl : ((ptree (l.take k) 0).pars (-1)).length = k := by rw [PT.pars_len, ptree_size, hlk]
    have e1 : ((ptree (l.take k) 0).pars (-1) ++ List.replicate (l.length - k) 0).set k (hd st) = ((ptree (l.take k) 0).pars (-1) ++ [hd st]) ++ List.replicate (l.length - (k + 1)) 0 := by
      rw [List.set_append_right _ _ (by omega), hpl, Nat.sub_self, show l.length - k = (l.length - (k + 1)) + 1 from by omega, List.replicate_succ]
      simp
    unfold upTo fix
    simp only
    split
    · rename_i h0
      rw [e1, List.set_append_left _ _ (by rw [List.length_append, hpl]; have := (h7 h0).2; simp; omega), Nat.sub_zero]
    · exact e1
theorem builtL_eq (l : List IP) : builtL l = (ptree l 0).pars (-1) := by
  have := (bRun_tree l l.length (Nat.le_refl _)).2
  simpa [builtL] using this

theorem dp_of (up : List Int) : ∀ (t : PT) (off : Nat) (p d : Int), t.At off → Dp up p (d - 1) → off + t.size ≤ up.length → (∀ i, i < t.size → up[off + i]? = (t.pars p)[i]?) →
    ∀ i (h : i < t.size), Dp up ((off + i : Nat) : Int) ((t.deps d)[i]'(by rw [PT.deps_len]; exact h))
  | .nil, _, _, _, _, _, _, _, i, h => by simp [PT.size] at h
  | .node q l r, off, p, d, ⟨hq, hl, hr⟩, hp, hsz, hup, i, h => by
    simp only [PT.size] at hsz h hup
    have hll := PT.pars_len l (q : Int)
    have hdl := PT.deps_len l (d + 1)
    have hroot : Dp up (q : Int) d := by
      have h1 := hup l.size (by omega)
      simp only [PT.pars, List.append_assoc] at h1
      rw [List.getElem?_append_right (by omega), hll, Nat.sub_self] at h1
      simp only [List.singleton_append, List.getElem?_cons_zero] at h1
      rw [← hq] at h1
      have hlt : q < up.length := by omega
      have h2 : up[q] = p := by rw [List.getElem?_eq_getElem hlt] at h1; exact Option.some.inj h1
      have := Dp.step (up := up) q (d - 1) hlt (by rw [h2]; exact hp)
      rwa [Int.sub_add_cancel] at this
    have hroot' : Dp up (q : Int) (d + 1 - 1) := by rwa [Int.add_sub_cancel]
    rcases Nat.lt_trichotomy i l.size with hi | hi | hi
    · have h1 := dp_of up l off q (d + 1) hl hroot' (by omega) (fun j hj => by
        rw [hup j (by omega)]
        simp only [PT.pars, List.append_assoc]
        rw [List.getElem?_append_left (by omega)]) i hi
      have e : ((PT.node q l r).deps d)[i]'(by rw [PT.deps_len]; simpa [PT.size] using h) = (l.deps (d + 1))[i]'(by omega) := by
        simp only [PT.deps, List.append_assoc]
        rw [List.getElem_append_left (by omega)]
      rw [e]; exact h1
    · subst hi
      have e : ((PT.node q l r).deps d)[l.size]'(by rw [PT.deps_len]; simpa [PT.size] using h) = d := by
        simp only [PT.deps, List.append_assoc]
        rw [List.getElem_append_right (by omega)]
        simp [hdl]
      rw [e, ← hq]; exact hroot
    · have h1 := dp_of up r (q + 1) q (d + 1) hr hroot' (by omega) (fun j hj => by
        have h2 := hup (l.size + 1 + j) (by omega)
        simp only [PT.pars] at h2
        rw [List.getElem?_append_right (by simp; omega)] at h2
        rw [show off + (l.size + 1 + j) = q + 1 + j from by omega] at h2
        rw [h2]
        congr 1
        simp [hll]) (i - (l.size + 1)) (by omega)
      have e : ((PT.node q l r).deps d)[i]'(by rw [PT.deps_len]; simpa [PT.size] using h) = (r.deps (d + 1))[i - (l.size + 1)]'(by rw [PT.deps_len]; omega) := by
        simp only [PT.deps]
        rw [List.getElem_append_right (by simp [hdl]; omega)]
        congr 1
        simp [hdl]
      rw [e]
      have e2 : ((q + 1 + (i - (l.size + 1)) : Nat) : Int) = ((off + i : Nat) : Int) := by omega
      rwa [e2] at h1
end Go.Proofs.Ythbapflabjogkaa
