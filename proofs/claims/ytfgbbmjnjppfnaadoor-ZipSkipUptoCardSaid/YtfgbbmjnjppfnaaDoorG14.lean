/-
  The plain law of heap.built: who stands next above, by the stack, is who stands next above in hedgref.HeapTree. No program. Conditions: none.
  heap.Check, heap.Of: what they answer. Conditions: the list reads as l (RD).
  Plain laws: the heap's tree of keys with their heights is the zipped tree. No program. Conditions: none.
  hedgref.SpotKeys: the keys of a list. Conditions: the list reads as l (RD) and of fewer than 2^43 spots.
  hedgref.TreeOf, hedgref.SpotsRight: what they answer. Conditions: the list reads as l (RD).
  Plain laws: hedgref.TreeOf makes of right spots the tree that shape.Parents reads, and these spots again; hedgref.SpotsRight: what it answers. Conditions: the list reads as l (RD).
  Slices of slices that are read (RDS). Conditions: none.
  hedgkeep.ok: what it answers. Conditions: the list reads as l (RD).
  hedgkeep.putAll, zipLives: what they answer. Conditions: the list reads as l (RD); the table of math/bits holds what it is laid with (DTb).
-/
import Derived.Test.YtfgbbmjnjppfnaaDoorG13
import Derived.Test.YtfgbbmjnjppfnaaDoorG2
import Derived.Test.YtfgbbmjnjppfnaaDoorG11
import Derived.Test.YtfgbbmjnjppfnaaDoorG3
import Derived.Test.YtfgbbmjnjppfnaaDoorG1
import Derived.Test.YtfgbbmjnjppfnaaDoorG12

namespace Go.Proofs.YtfgbbmjnjppfnaaDoor
open Go.ChangeShapes Go.WideShapes Go.ChangeAt Go.RowKit
set_option linter.unusedVariables false
set_option linter.unusedSimpArgs false

def PT.spine : PT → List Nat
  | .nil => []
  | .node p l r => r.spine ++ [p]
/-- No one below ranks higher. -/
def PT.ord (v : Nat → Int) : PT → Prop
  | .nil => True
  | .node p l r => l.ord v ∧ r.ord v ∧ (∀ q ∈ r.spine, v q ≤ v p)
def PT.ins (v : Nat → Int) (n : Nat) : PT → PT
  | .nil => .node n .nil .nil
  | .node p l r => if v p < v n then .node n (.node p l r) .nil else .node p l (r.ins v n)
theorem PT.ins_size (v : Nat → Int) (n : Nat) : ∀ t : PT, (t.ins v n).size = t.size + 1
  | .nil => rfl
  | .node p l r => by
    unfold ins
    split
    · simp [size]
    · simp [size, ins_size v n r]; omega

/-- popL by a value function. -/
def popV (v : Nat → Int) (x : Int) : List Nat → Int → List Nat × Int
  | [], last => ([], last)
  | t :: es, last => if v t < x then popV v x es t else (t :: es, last)
theorem popL_popV (l : List IP) (x : Int) : ∀ (st : List Nat) (last : Int), popL l x st last = popV (gv l) x st last
  | [], _ => rfl
  | t :: es, last => by unfold popL popV; split <;> simp [popL_popV l x es]
theorem popV_all (v : Nat → Int) (x : Int) : ∀ (s rest : List Nat) (last : Int), (∀ q ∈ s, v q < x) → popV v x (s ++ rest) last = popV v x rest (match s.getLast? with | some t => (t : Int) | none => last)
  | [], rest, last, _ => by simp
  | a :: s, rest, last, h => by
    rw [List.cons_append, popV, if_pos (h a (by simp)), popV_all v x s rest a (fun q hq => h q (by simp [hq]))]
    congr 1
    cases s with
    | nil => simp
    | cons b s =>
      rw [List.getLast?_cons_cons]
      cases h : (b :: s).getLast? with
      | none => simp at h
      | some t => rfl
theorem popV_stop (v : Nat → Int) (x : Int) (rest : List Nat) (last : Int) (h : ∀ t es, rest = t :: es → ¬ v t < x) : popV v x rest last = (rest, last) := by
  cases rest with
  | nil => rfl
  | cons t es => rw [popV, if_neg (h t es rfl)]

/-- What the step does to the list of those above: at the new place hd of what is left; of the last one popped: the new place. -/
def fix (L : List Int) (off n : Nat) (up last : Int) : List Int := if 0 ≤ last then (L ++ [up]).set (last.toNat - off) n else L ++ [up]

theorem ins_step (v : Nat → Int) (n : Nat) : ∀ (t : PT) (off : Nat) (rest : List Nat), t.ord v → t.At off → n = off + t.size → (∀ q es, rest = q :: es → ¬ v q < v n) →
    ∃ st last, popV v (v n) (t.spine ++ rest) (-1) = (st, last) ∧ (t.ins v n).spine ++ rest = n :: st ∧ (t.ins v n).At off ∧ (t.ins v n).pars (hd rest) = fix (t.pars (hd rest)) off n (hd st) last ∧ (0 ≤ last → off ≤ last.toNat ∧ last.toNat < n)
  | .nil, off, rest, ho, ha, hn, hr => by
    refine ⟨rest, -1, ?_, by simp [PT.ins, PT.spine], ?_, ?_, by omega⟩
    · simp only [PT.spine, List.nil_append]; exact popV_stop v _ rest _ hr
    · simp [PT.ins, PT.At, PT.size] at *; omega
    · simp [PT.ins, PT.pars, fix]
  | .node p l r, off, rest, ⟨hl, hr', hs⟩, ⟨hp, hal, har⟩, hn, hr => by
    by_cases hlt : v p < v n
    · have hall : ∀ q ∈ (PT.node p l r).spine, v q < v n := by
        intro q hq
        simp only [PT.spine, List.mem_append, List.mem_singleton] at hq
        rcases hq with hq | rfl
        · have := hs q hq; omega
        · exact hlt
      have hpop := popV_all v (v n) (PT.node p l r).spine rest (-1) hall
      have hlast : (match (PT.node p l r).spine.getLast? with | some t => (t : Int) | none => -1) = (p : Int) := by simp [PT.spine]
      rw [hlast, popV_stop v _ rest _ hr] at hpop
      refine ⟨rest, p, hpop, by simp [PT.ins, hlt, PT.spine], ?_, ?_, ?_⟩
      · simp only [PT.ins, if_pos hlt, PT.At, PT.size] at *
        exact ⟨hn, ⟨hp, hal, har⟩, trivial⟩
      · simp only [PT.ins, if_pos hlt, PT.pars, fix, if_pos (Int.natCast_nonneg p), Int.toNat_natCast, List.append_nil]
        have hpl : (l.pars (p : Int)).length = p - off := by rw [PT.pars_len]; omega
        have e : l.pars (p : Int) ++ [hd rest] ++ r.pars (p : Int) ++ [hd rest] = l.pars (p : Int) ++ (hd rest :: (r.pars (p : Int) ++ [hd rest])) := by simp
        rw [e, List.set_append_right _ _ (by omega), hpl, Nat.sub_self, List.set_cons_zero]
        simp
      · intro _
        simp only [Int.toNat_natCast, PT.size] at *
        omega
    · have hn' : n = p + 1 + r.size := by simp only [PT.size] at hn; omega
      obtain ⟨st, last, h1, h2, h3, h4, h5⟩ := ins_step v n r (p + 1) (p :: rest) hr' har hn' (fun q es e => by injection e with e1 _; subst e1; exact hlt)
      refine ⟨st, last, ?_, ?_, ?_, ?_, fun h => ⟨by have := h5 h; omega, (h5 h).2⟩⟩
      · simpa [PT.spine] using h1
      · simpa [PT.ins, hlt, PT.spine] using h2
      · simp only [PT.ins, if_neg hlt, PT.At]
        exact ⟨hp, hal, h3⟩
      · simp only [PT.ins, if_neg hlt, PT.pars]
        have h4' : (r.ins v n).pars (p : Int) = fix (r.pars (p : Int)) (p + 1) n (hd st) last := h4
        rw [h4']
        unfold fix
        split
        · rename_i h0
          obtain ⟨h6, h7⟩ := h5 h0
          have hpl : (l.pars (p : Int) ++ [hd rest]).length = p + 1 - off := by rw [List.length_append, PT.pars_len]; simp; omega
          have e : l.pars (p : Int) ++ [hd rest] ++ r.pars (p : Int) ++ [hd st] = (l.pars (p : Int) ++ [hd rest]) ++ (r.pars (p : Int) ++ [hd st]) := by simp
          have e3 : ((l.pars (p : Int) ++ [hd rest]) ++ (r.pars (p : Int) ++ [hd st])).set (last.toNat - off) (n : Int) = (l.pars (p : Int) ++ [hd rest]) ++ (r.pars (p : Int) ++ [hd st]).set (last.toNat - (p + 1)) (n : Int) := by
            rw [List.set_append_right _ _ (by omega), hpl]
            congr 2
            omega
          rw [e, e3]
        · simp

/-! The tree of places of a list. -/
theorem amax_last (l : List IP) : ∀ m k a, amax l (m + 1) k a = (if (l.getD (amax l m k a) (0, 0)).2 < (l.getD (k + m) (0, 0)).2 then k + m else amax l m k a)
  | 0, k, a => by simp [amax]
  | m + 1, k, a => by
    rw [amax, amax_last l m (k + 1), show k + 1 + m = k + (m + 1) from by omega]
    rfl
theorem amax_append (l : List IP) (x : IP) : ∀ m k a, k + m ≤ l.length → a < l.length → amax (l ++ [x]) m k a = amax l m k a
  | 0, _, _, _, _ => rfl
  | m + 1, k, a, h, ha => by
    have e1 : (l ++ [x]).getD a (0, 0) = l.getD a (0, 0) := by simp [List.getD_eq_getElem?_getD, List.getElem?_append_left ha]
    have e2 : (l ++ [x]).getD k (0, 0) = l.getD k (0, 0) := by simp [List.getD_eq_getElem?_getD, List.getElem?_append_left (show k < l.length by omega)]
    rw [amax, amax, e1, e2]
    split
    · exact amax_append l x m (k + 1) k (by omega) (by omega)
    · exact amax_append l x m (k + 1) a (by omega) ha
theorem top_snoc (l : List IP) (x : IP) (h : l ≠ []) : top (l ++ [x]) = if (l[top l]'(top_lt l h)).2 < x.2 then l.length else top l := by
  have h0 := List.length_pos_iff.2 h
  have ht := top_lt l h
  unfold top at ht ⊢
  rw [List.length_append, List.length_singleton, amax_last, amax_append l x _ _ _ (by omega) h0]
  have e1 : (l ++ [x]).getD (amax l l.length 0 0) (0, 0) = l[amax l l.length 0 0] := by simp [List.getD_eq_getElem?_getD, List.getElem?_append_left ht, List.getElem?_eq_getElem ht]
  have e2 : (l ++ [x]).getD (0 + l.length) (0, 0) = x := by simp [List.getD_eq_getElem?_getD]
  rw [e1, e2, Nat.zero_add]
  rfl
theorem amax_ge (l : List IP) : ∀ m k a, k + m ≤ l.length → a < l.length → (∀ j, j < k → (l.getD j (0, 0)).2 ≤ (l.getD a (0, 0)).2) → ∀ j, j < k + m → (l.getD j (0, 0)).2 ≤ (l.getD (amax l m k a) (0, 0)).2
  | 0, k, a, _, _, h, j, hj => h j hj
  | m + 1, k, a, hk, ha, h, j, hj => by
    rw [amax]
    split
    · rename_i hlt
      exact amax_ge l m (k + 1) k (by omega) (by omega) (fun i hi => by
        rcases Nat.lt_or_ge i k with h1 | h1
        · have := h i h1; omega
        · obtain rfl : i = k := by omega
          omega) j (by omega)
    · rename_i hlt
      exact amax_ge l m (k + 1) a (by omega) ha (fun i hi => by
        rcases Nat.lt_or_ge i k with h1 | h1
        · exact h i h1
        · obtain rfl : i = k := by omega
          omega) j (by omega)
theorem top_ge (l : List IP) (h : l ≠ []) (j : Nat) (hj : j < l.length) : l[j].2 ≤ (l[top l]'(top_lt l h)).2 := by
  have := amax_ge l l.length 0 0 (by omega) (List.length_pos_iff.2 h) (fun j hj => by omega) j (by omega)
  have ht := top_lt l h
  unfold top at ht ⊢
  simp only [List.getD_eq_getElem?_getD, List.getElem?_eq_getElem hj, List.getElem?_eq_getElem ht, Option.getD_some] at this
  exact this

def ptree (l : List IP) (off : Nat) : PT :=
  if h : l = [] then .nil
  else
    have := top_lt l h
    .node (off + top l) (ptree (l.take (top l)) off) (ptree (l.drop (top l + 1)) (off + top l + 1))
termination_by l.length
decreasing_by
  · simp; omega
  · simp; omega
theorem ptree_nil (off : Nat) : ptree [] off = .nil := by rw [ptree]; simp
theorem ptree_cons (l : List IP) (off : Nat) (h : l ≠ []) : ptree l off = .node (off + top l) (ptree (l.take (top l)) off) (ptree (l.drop (top l + 1)) (off + top l + 1)) := by
  rw [ptree, dif_neg h]
theorem ptree_size (l : List IP) (off : Nat) : (ptree l off).size = l.length := by
  by_cases h : l = []
  · subst h; rw [ptree_nil]; rfl
  · have hl := top_lt l h
    rw [ptree_cons l off h, PT.size, ptree_size (l.take (top l)), ptree_size (l.drop (top l + 1))]
    simp; omega
termination_by l.length
decreasing_by
  · simp; omega
  · simp; omega
theorem ptree_at (l : List IP) (off : Nat) : (ptree l off).At off := by
  by_cases h : l = []
  · subst h; rw [ptree_nil]; trivial
  · have hl := top_lt l h
    rw [ptree_cons l off h]
    refine ⟨?_, ptree_at _ _, ptree_at _ _⟩
    rw [ptree_size]; simp; omega
termination_by l.length
decreasing_by
  · simp; omega
  · simp; omega
theorem PT.spine_in : ∀ (t : PT) (off : Nat), t.At off → ∀ q ∈ t.spine, off ≤ q ∧ q < off + t.size
  | .nil, _, _, q, hq => by simp [spine] at hq
  | .node p l r, off, ⟨h1, h2, h3⟩, q, hq => by
    simp only [spine, List.mem_append, List.mem_singleton] at hq
    simp only [size]
    rcases hq with hq | rfl
    · have := spine_in r (p + 1) h3 q hq; omega
    · omega
theorem ptree_ord (v : Nat → Int) (l : List IP) (off : Nat) (hv : ∀ i (h : i < l.length), v (off + i) = l[i].2) : (ptree l off).ord v := by
  by_cases h : l = []
  · subst h; rw [ptree_nil]; trivial
  · have hl := top_lt l h
    rw [ptree_cons l off h]
    refine ⟨ptree_ord v _ _ fun i hi => ?_, ptree_ord v _ _ fun i hi => ?_, fun q hq => ?_⟩
    · simp at hi
      rw [hv i (by omega)]; simp
    · simp at hi
      rw [show off + top l + 1 + i = off + (top l + 1 + i) from by omega, hv _ (by omega)]; simp
    · obtain ⟨h1, h2⟩ := PT.spine_in _ _ (ptree_at _ _) q hq
      rw [ptree_size] at h2
      simp at h2
      obtain ⟨i, rfl⟩ : ∃ i, q = off + i := ⟨q - off, by omega⟩
      rw [hv i (by omega), hv _ hl]
      exact top_ge l h i (by omega)
termination_by l.length
decreasing_by
  · simp; omega
  · simp; omega
theorem ptree_snoc (v : Nat → Int) (n : Nat) (x : IP) (hx : v n = x.2) (l : List IP) (off : Nat) (hn : n = off + l.length) (hv : ∀ i (h : i < l.length), v (off + i) = l[i].2) : ptree (l ++ [x]) off = (ptree l off).ins v n := by
  by_cases h : l = []
  · subst h
    rw [ptree_nil, List.nil_append, ptree_cons _ _ (by simp)]
    have ht : top [x] = 0 := by simp [top, amax]
    rw [ht]
    simp [ptree_nil, PT.ins, hn]
  · have hl := top_lt l h
    have hts := top_snoc l x h
    rw [ptree_cons l off h, ptree_cons (l ++ [x]) off (by simp), PT.ins, hv _ hl, hx]
    by_cases hlt : (l[top l]'hl).2 < x.2
    · rw [if_pos hlt] at hts
      rw [if_pos hlt, hts, ← hn]
      have e1 : (l ++ [x]).take l.length = l := by simp
      have e2 : (l ++ [x]).drop (l.length + 1) = [] := by simp
      rw [e1, e2, ptree_nil, ← ptree_cons l off h]
    · rw [if_neg hlt] at hts
      rw [if_neg hlt, hts]
      have e1 : (l ++ [x]).take (top l) = l.take (top l) := by rw [List.take_append_of_le_length (by omega)]
      have e2 : (l ++ [x]).drop (top l + 1) = l.drop (top l + 1) ++ [x] := by rw [List.drop_append_of_le_length (by omega)]
      rw [e1, e2]
      congr 1
      refine ptree_snoc v n x hx _ _ (by simp; omega) fun i hi => ?_
      simp at hi
      rw [show off + top l + 1 + i = off + (top l + 1 + i) from by omega, hv _ (by omega)]; simp
termination_by l.length
decreasing_by
  simp; omega

/-- The run of heap.built, in words of the tree of places. -/
theorem bRun_tree (l : List IP) : ∀ k, k ≤ l.length → (bRun l k).1 = (ptree (l.take k) 0).spine ∧ (bRun l k).2 = (ptree (l.take k) 0).pars (-1) ++ List.replicate (l.length - k) 0
  | 0, _ => by simp [bRun, ptree_nil, PT.spine, PT.pars]
  | k + 1, hk => by
    obtain ⟨h1, h2⟩ := bRun_tree l k (by omega)
    have hlk : (l.take k).length = k := by simp; omega
    have hv : ∀ i (h : i < (l.take k).length), gv l (0 + i) = (l.take k)[i].2 := fun i h => by
      rw [Nat.zero_add, gv_eq l i (by omega)]; simp
    have hsn := ptree_snoc (gv l) k (l[k]'(by omega)) (gv_eq l k (by omega)) (l.take k) 0 (by omega) hv
    rw [← List.take_succ_eq_append_getElem (by omega)] at hsn
    obtain ⟨st, last, h3, h4, h5, h6, h7⟩ := ins_step (gv l) k (ptree (l.take k) 0) 0 [] (ptree_ord _ _ _ hv) (ptree_at _ _) (by rw [ptree_size]; omega) (fun q es e => by cases e)
    rw [List.append_nil] at h3 h4
    have hpop : popL l (gv l k) (bRun l k).1 (-1) = (st, last) := by rw [popL_popV, h1]; exact h3
    have hst : bRun l (k + 1) = (k :: st, upTo (bRun l k).2 k (st, last)) := by
      show bStep l (bRun l k) k = _
      simp only [bStep, hpop]
    rw [hst, hsn]
    refine ⟨h4.symm, ?_⟩
    have h6' : ((ptree (l.take k) 0).ins (gv l) k).pars (-1) = fix ((ptree (l.take k) 0).pars (-1)) 0 k (hd st) last := h6
    rw [h6', h2]
    have hpl : ((ptree (l.take k) 0).pars (-1)).length = k := by rw [PT.pars_len, ptree_size, hlk]
    have e1 : ((ptree (l.take k) 0).pars (-1) ++ List.replicate (l.length - k) 0).set k (hd st) = ((ptree (l.take k) 0).pars (-1) ++ [hd st]) ++ List.replicate (l.length - (k + 1)) 0 := by
      rw [List.set_append_right _ _ (by omega), hpl, Nat.sub_self, show l.length - k = (l.length - (k + 1)) + 1 from by omega, List.replicate_succ]
      simp
    unfold upTo fix
    simp only
    split
    · rename_i h0
      rw [e1, List.set_append_left _ _ (by rw [List.length_append, hpl]; have := (h7 h0).2; simp; omega), Nat.sub_zero]
    · exact e1
theorem builtL_eq (l : List IP) : builtL l = (ptree l 0).pars (-1) := by
  have := (bRun_tree l l.length (Nat.le_refl _)).2
  simpa [builtL] using this

theorem dp_of (up : List Int) : ∀ (t : PT) (off : Nat) (p d : Int), t.At off → Dp up p (d - 1) → off + t.size ≤ up.length → (∀ i, i < t.size → up[off + i]? = (t.pars p)[i]?) →
    ∀ i (h : i < t.size), Dp up ((off + i : Nat) : Int) ((t.deps d)[i]'(by rw [PT.deps_len]; exact h))
  | .nil, _, _, _, _, _, _, _, i, h => by simp [PT.size] at h
  | .node q l r, off, p, d, ⟨hq, hl, hr⟩, hp, hsz, hup, i, h => by
    simp only [PT.size] at hsz h hup
    have hll := PT.pars_len l (q : Int)
    have hdl := PT.deps_len l (d + 1)
    have hroot : Dp up (q : Int) d := by
      have h1 := hup l.size (by omega)
      simp only [PT.pars, List.append_assoc] at h1
      rw [List.getElem?_append_right (by omega), hll, Nat.sub_self] at h1
      simp only [List.singleton_append, List.getElem?_cons_zero] at h1
      rw [← hq] at h1
      have hlt : q < up.length := by omega
      have h2 : up[q] = p := by rw [List.getElem?_eq_getElem hlt] at h1; exact Option.some.inj h1
      have := Dp.step (up := up) q (d - 1) hlt (by rw [h2]; exact hp)
      rwa [Int.sub_add_cancel] at this
    have hroot' : Dp up (q : Int) (d + 1 - 1) := by rwa [Int.add_sub_cancel]
    rcases Nat.lt_trichotomy i l.size with hi | hi | hi
    · have h1 := dp_of up l off q (d + 1) hl hroot' (by omega) (fun j hj => by
        rw [hup j (by omega)]
        simp only [PT.pars, List.append_assoc]
        rw [List.getElem?_append_left (by omega)]) i hi
      have e : ((PT.node q l r).deps d)[i]'(by rw [PT.deps_len]; simpa [PT.size] using h) = (l.deps (d + 1))[i]'(by omega) := by
        simp only [PT.deps, List.append_assoc]
        rw [List.getElem_append_left (by omega)]
      rw [e]; exact h1
    · subst hi
      have e : ((PT.node q l r).deps d)[l.size]'(by rw [PT.deps_len]; simpa [PT.size] using h) = d := by
        simp only [PT.deps, List.append_assoc]
        rw [List.getElem_append_right (by omega)]
        simp [hdl]
      rw [e, ← hq]; exact hroot
    · have h1 := dp_of up r (q + 1) q (d + 1) hr hroot' (by omega) (fun j hj => by
        have h2 := hup (l.size + 1 + j) (by omega)
        simp only [PT.pars] at h2
        rw [List.getElem?_append_right (by simp; omega)] at h2
        rw [show off + (l.size + 1 + j) = q + 1 + j from by omega] at h2
        rw [h2]
        congr 1
        simp [hll]) (i - (l.size + 1)) (by omega)
      have e : ((PT.node q l r).deps d)[i]'(by rw [PT.deps_len]; simpa [PT.size] using h) = (r.deps (d + 1))[i - (l.size + 1)]'(by rw [PT.deps_len]; omega) := by
        simp only [PT.deps]
        rw [List.getElem_append_right (by simp [hdl]; omega)]
        congr 1
        simp [hdl]
      rw [e]
      have e2 : ((q + 1 + (i - (l.size + 1)) : Nat) : Int) = ((off + i : Nat) : Int) := by omega
      rwa [e2] at h1
end Go.Proofs.YtfgbbmjnjppfnaaDoor
namespace Go.Proofs.YtfgbbmjnjppfnaaDoor
open Go.ChangeShapes Go.WideShapes Go.ChangeAt Go.RowKit
set_option linter.unusedVariables false
set_option linter.unusedSimpArgs false

theorem heap_zip (l : List IP) (off : Nat) (d : Int) : (heapTree l).spots d = List.zipWith (fun (p : IP) (e : Int) => ((p.1, e) : IP)) l ((ptree l off).deps d) := by
  by_cases h : l = []
  · subst h; rw [heapTree_nil, ptree_nil]; rfl
  · have hl := top_lt l h
    rw [heapTree_cons l h, ptree_cons l off h, T.spots, PT.deps, heap_zip (l.take (top l)) off (d + 1), heap_zip (l.drop (top l + 1)) (off + top l + 1) (d + 1)]
    have e : l = l.take (top l) ++ ([l[top l]] ++ l.drop (top l + 1)) := by simp
    conv => rhs; arg 2; rw [e]
    rw [List.append_assoc, List.append_assoc, List.zipWith_append (by rw [PT.deps_len, ptree_size]), List.zipWith_append (by rfl)]
    rfl
termination_by l.length
decreasing_by
  · simp; omega
  · simp; omega
theorem PT.deps_le : ∀ (t : PT) (d : Int), ∀ e ∈ t.deps d, e < d + t.size
  | .nil, _, e, h => by simp [deps] at h
  | .node p l r, d, e, h => by
    simp only [deps, List.mem_append, List.mem_singleton] at h
    simp only [size]
    rcases h with (h | rfl) | h
    · have := deps_le l (d + 1) e h; omega
    · omega
    · have := deps_le r (d + 1) e h; omega
def hD (l : List IP) (k : Nat) : Int := ((ptree l 0).deps 0).getD k 0
theorem hD_ok (l : List IP) (hn : l.length ≤ 1000) (k : Nat) (hk : k < l.length) : Dp (builtL l) (k : Int) (hD l k) ∧ hD l k ≤ 1000000 := by
  have hs : k < (ptree l 0).size := by rw [ptree_size]; exact hk
  have hdl : k < ((ptree l 0).deps 0).length := by rw [PT.deps_len]; exact hs
  have e : hD l k = ((ptree l 0).deps 0)[k] := by simp [hD, List.getD_eq_getElem?_getD, List.getElem?_eq_getElem hdl]
  constructor
  · have h := dp_of (builtL l) (ptree l 0) 0 (-1) 0 (ptree_at l 0) (Dp.base _ (by omega)) (by rw [builtL_eq, PT.pars_len]; omega) (fun i hi => by rw [builtL_eq, Nat.zero_add]) k hs
    rw [Nat.zero_add] at h
    rw [e]; exact h
  · have := PT.deps_le (ptree l 0) 0 _ (List.getElem_mem hdl)
    rw [ptree_size] at this
    rw [e]; omega
theorem dl_eq (l : List IP) : dl l (hD l) = (heapTree l).spots 0 := by
  rw [heap_zip l 0 0]
  have hdl : ((ptree l 0).deps 0).length = l.length := by rw [PT.deps_len, ptree_size]
  apply List.ext_getElem
  · simp [dl_len, hdl]
  · intro k h1 h2
    rw [dl_len] at h1
    rw [dl_at l _ k h1, List.getElem_zipWith]
    simp [hD, List.getD_eq_getElem?_getD, List.getElem?_eq_getElem (show k < ((ptree l 0).deps 0).length by omega)]

def heapOf (l : List IP) : List IP × Int := if mapRight l = 0 then ((heapTree l).spots 0, 0) else ([], mapRight l)

theorem hcheck_any (l : List IP) (v : Value) (w : World) (hr : RD w ePair v l) : Calls Tryd.prog 50 #[v] w (Ret (.int .i64 (mapRight l)) w) := by
  have HR := hide hr
  clear hr
  go_enter Tryd.func50, Tryd.ntmps50
  go_wp2_with (go_at_call 70; refine (check_any l _ _ HR.out).mono ?_; rintro e w' ⟨rfl, hb⟩)
  go_ret
  exact ⟨rfl, hb⟩
set_option maxHeartbeats 1000000 in
theorem heapOf_any (l : List IP) (v : Value) (w : World) (hr : RD w ePair v l) : Calls Tryd.prog 29 #[v] w (Ret2 ePair (heapOf l) w) := by
  have HR := hide hr
  clear hr
  by_cases h0 : mapRight l = 0
  · have hlen := mapRight_len l h0
    have hres : Hid (heapOf l = ((heapTree l).spots 0, 0)) := hide (by rw [heapOf, if_pos h0])
    have hb0 : (mapRight l != 0) = false := by simp [h0]
    have H0 := hide h0
    clear h0
    go_enter Tryd.func29, Tryd.ntmps29
    go_wp2_with (go_at_call 50; refine (hcheck_any l _ _ HR.out).mono ?_; rintro e w1 ⟨rfl, hb1⟩)
    refine (built_any l _ _ (HR.out.below hb1) (by omega)).mono ?_
    rintro e w2 ⟨g, rfl, hg, ha, hb2⟩
    have hbl : (builtL l).length = l.length := bRun_len l _
    have HA := hide ha
    have HBL := hide hbl
    clear ha hbl
    go_wp2_with fail
    refine (hspots_any l (builtL l) (hD l) _ _ _ ((HR.out.below hb1).below hb2) (HA.out.rd (by rw [HBL.out]; unfold maxLen; omega)) (by omega) HBL.out (fun k hk => hD_ok l (by omega) k hk)).mono ?_
    rintro e w3 ⟨g3, rfl, hg3, ha3, hb3⟩
    have HA3 := hide ha3
    clear ha3
    go_wp2
    go_ret2
    refine ⟨_, by rw [hres.out]; rfl, ?_, (Kp.trans hb1 (Kp.trans hb2 hb3)).bel⟩
    rw [hres.out, ← dl_eq]
    exact HA3.out.rd (by rw [dl_len]; unfold maxLen; omega)
  · have hb0 : (mapRight l != 0) = true := by simp [h0]
    have hres : Hid (heapOf l = ([], mapRight l)) := hide (by rw [heapOf, if_neg h0])
    clear h0
    go_enter Tryd.func29, Tryd.ntmps29
    go_wp2_with (go_at_call 50; refine (hcheck_any l _ _ HR.out).mono ?_; rintro e w1 ⟨rfl, hb1⟩)
    go_ret2
    exact ⟨_, by rw [hres.out]; rfl, by rw [hres.out]; exact RD.nil, hb1⟩
end Go.Proofs.YtfgbbmjnjppfnaaDoor
namespace Go.Proofs.YtfgbbmjnjppfnaaDoor
open Go.ChangeShapes Go.WideShapes Go.ChangeAt Go.RowKit
set_option linter.unusedVariables false
set_option linter.unusedSimpArgs false

def skZ : MT IP → T
  | .nil => .nil
  | .node a l r => .node a.1 (skZ l) (skZ r)
theorem skZ_spots : ∀ (t : MT IP) (d : Int), (skZ t).spots d = t.spotsBy Prod.fst d
  | .nil, _ => rfl
  | .node a l r, d => by simp [skZ, T.spots, MT.spotsBy, skZ_spots l, skZ_spots r]
/-- Ahead of the first of the greatest all are less. -/
theorem amax_first (l : List IP) : ∀ m, m ≤ l.length → 0 < l.length → amax l m 0 0 < max 1 m ∧ ∀ j, j < amax l m 0 0 → (l.getD j (0, 0)).2 < (l.getD (amax l m 0 0) (0, 0)).2 := by
  intro m
  induction m with
  | zero => intro _ _; simp [amax]
  | succ m ih =>
    intro h1 h2
    obtain ⟨i1, i2⟩ := ih (by omega) h2
    have hg := amax_ge l m 0 0 (by omega) h2 (fun j hj => by omega)
    rw [amax_last, Nat.zero_add]
    split
    · next hlt =>
      refine ⟨by omega, fun j hj => ?_⟩
      have := hg j (by omega)
      omega
    · exact ⟨by omega, i2⟩
theorem top_first (l : List IP) (h : l ≠ []) (j : Nat) (hj : j < top l) : (l[j]'(Nat.lt_trans hj (top_lt l h))).2 < (l[top l]'(top_lt l h)).2 := by
  have hl := top_lt l h
  have h0 : 0 < l.length := by omega
  have := (amax_first l l.length (Nat.le_refl _) h0).2 j hj
  simpa [top, List.getD_eq_getElem?_getD, List.getElem?_eq_getElem (show j < l.length by omega), List.getElem?_eq_getElem (show amax l l.length 0 0 < l.length from hl)] using this
theorem heapTree_nd : ∀ t : MT IP, Hp t → UpN (nd t) → heapTree (nd t) = skZ t
  | .nil, _, _ => by rw [nd, heapTree_nil]; rfl
  | .node a l r, ⟨p1, p2, p3, p4⟩, hu => by
    obtain ⟨u1, u2, u3, u4, _⟩ := upN_node hu
    have hne : nd (.node a l r) ≠ [] := by simp [nd]
    have hlen : (nd (.node a l r)).length = (nd l).length + 1 + (nd r).length := by simp [nd]; omega
    have hat : ∀ h : (nd l).length < (nd (.node a l r)).length, (nd (.node a l r))[(nd l).length]'h = a := fun h => by simp [nd]
    have hxl : ∀ j (h : j < (nd (.node a l r)).length) (h1 : j < (nd l).length), (nd (.node a l r))[j] = (nd l)[j] := fun j h h1 => by simp only [nd]; rw [List.getElem_append_left h1]
    have hxr : ∀ j (h : j < (nd (.node a l r)).length), (nd l).length < j → (nd (.node a l r))[j] ∈ nd r := fun j h h1 => by
      have e : (nd (.node a l r))[j] = (nd r)[j - ((nd l).length + 1)]'(by omega) := by
        simp only [nd]
        rw [List.getElem_append_right (by omega), List.getElem_cons, dif_neg (by omega)]
        congr 1
      rw [e]; exact List.getElem_mem _
    have htl := top_lt _ hne
    have hn : (nd l).length < (nd (.node a l r)).length := by omega
    have htop : top (nd (.node a l r)) = (nd l).length := by
      have g1 := top_ge _ hne _ hn
      rw [hat hn] at g1
      rcases Nat.lt_trichotomy (top (nd (.node a l r))) (nd l).length with h1 | h1 | h1
      · exfalso
        have hx := hxl _ htl h1
        have ho := p1 _ (List.getElem_mem h1)
        have hk := u3 _ (List.getElem_mem h1)
        rw [ov_iff] at ho
        rw [hx] at g1
        omega
      · exact h1
      · exfalso
        have g2 := top_first _ hne _ h1
        rw [hat hn] at g2
        have hx := hxr _ htl h1
        have ho := p2 _ hx
        rw [ov_iff] at ho
        omega
    rw [heapTree_cons _ hne]
    have e1 : (nd (.node a l r)).take (nd l).length = nd l := by simp [nd]
    have e2 : (nd (.node a l r)).drop ((nd l).length + 1) = nd r := by
      rw [nd, show nd l ++ a :: nd r = (nd l ++ [a]) ++ nd r by simp]
      exact List.drop_left' (by simp)
    have e3 : (nd (.node a l r))[top (nd (.node a l r))] = a := by
      have := hat hn
      simp only [htop]
      exact this
    rw [e3, htop, e1, e2, heapTree_nd l p3 u1, heapTree_nd r p4 u2]
    rfl
theorem keysM_nd : ∀ t : MT IP, keysM Prod.fst t = (nd t).map Prod.fst
  | .nil => rfl
  | .node a l r => by simp [keysM, nd, keysM_nd l, keysM_nd r]
/-- What ops leave: the spots; the heap's tree of the keys and heights is the same. -/
theorem zip_heap (ops : List O3) : heapOf (((zrT (opsA ops)).spotsBy Prod.fst 0).map fun x => (x.1, hgtF x.1)) = ((zrT (opsA ops)).spotsBy Prod.fst 0, 0) := by
  have h := zip_inv_all ops
  have hr := runL_right ops _ (Nat.le_refl _)
  rw [List.take_length] at hr
  have hk := spotsBy_keys Prod.fst (zrT (opsA ops)) 0
  rw [keysM_nd, h.nd_, List.map_map] at hk
  have hk2 : ((zrT (opsA ops)).spotsBy Prod.fst 0).map Prod.fst = (runL ops).1.map Prod.fst := by rw [hk]; simp [Function.comp_def, zk]
  have e : ((zrT (opsA ops)).spotsBy Prod.fst 0).map (fun x => (x.1, hgtF x.1)) = nd (zrT (opsA ops)) := by
    rw [h.nd_, ← hk2, List.map_map]; rfl
  have hm : mapRight (nd (zrT (opsA ops))) = 0 := by
    rw [mapRight_keys _ (runL ops).1 (by rw [h.nd_, List.map_map]; simp [Function.comp_def, zk])]; exact hr
  rw [e, heapOf, if_pos hm, heapTree_nd _ h.hp (by rw [h.nd_]; exact zk_up h.up), skZ_spots]
end Go.Proofs.YtfgbbmjnjppfnaaDoor
namespace Go.Proofs.YtfgbbmjnjppfnaaDoor
open Go.ChangeShapes Go.WideShapes Go.ChangeAt Go.RowKit
set_option linter.unusedVariables false
set_option linter.unusedSimpArgs false

def KeyRel (l : List IP) (w : World) (ov iv : Value) (wr : World) : Prop := ∃ k : Nat, k ≤ l.length ∧ iv = .int .i64 k ∧ OW wr w.heap.size 3 eInt ov ((l.take k).map Prod.fst) ∧ Kp w wr
set_option maxRecDepth 100000 in
set_option maxHeartbeats 1000000 in
theorem spotKeys_any (l : List IP) (v : Value) (w : World) (hr : RD w ePair v l) (hn : l.length ≤ 8796093022207) : Calls Tryd.prog 13 #[v] w (RetOW 3 eInt (l.map Prod.fst) w) := by
  obtain ⟨A, c, rfl, hc, hm⟩ := hr.shape
  have HR := hide hr
  clear hr
  go_enter Tryd.func13, Tryd.ntmps13
  go_wp2
  go_loopw [3, 8] (KeyRel l w) (fun _ i _ => l.length - (intOf i).toNat)
  case atStart => exact ⟨0, by omega, rfl, OW.nil, Kp.refl _⟩
  case round =>
    obtain ⟨k, hk, rfl, ho, hkp⟩ := hrel
    have hi := ho.hi
    have HO := hide ho
    obtain ⟨u, hu⟩ : ∃ u, u = u3 := ⟨_, rfl⟩
    by_cases hlt : k < l.length
    · obtain ⟨b, o, rfl, _, x0, x1⟩ := (HR.out.kp hkp).pair hlt
      obtain ⟨y, hy⟩ : ∃ y, y = l[k].1 := ⟨_, rfl⟩
      rw [← hy] at x0
      have HN : Hid ((l.take k).map Prod.fst ++ [y] = (l.take (k + 1)).map Prod.fst) := hide (by rw [List.take_succ_eq_append_getElem hlt, List.map_append, hy]; rfl)
      have HM1 : Hid ((((l.take k).map Prod.fst).length + [y].length) * 8 ≤ 140737488355328) := hide (by simp; omega)
      have HM2 : Hid (((l.take k).map Prod.fst).length + [y].length ≤ maxLen) := hide (by simp [maxLen]; omega)
      clear hy ho hu
      go_wp2_with (at_builtin; (with_reducible refine list_app (B := w.heap.size) (l := (l.take k).map Prod.fst) (m := [y]) row_int u3 ?_ (.tmp 12) (.tmp 15) ?_ ?_ ?_ ?_ HM1.out HM2.out ?_ ?_); (with_reducible rfl); (with_reducible rfl); rfl; ((with_reducible apply OW.alloc); (with_reducible apply OW.alloc); exact HO.out); (show RD _ _ (.slice (some ⟨_, 0, none⟩) 1 1) _; (focus ((repeat (first | (with_reducible assumption) | exact RD.new1 _ rfl | (refine RD.new1e _ ?_ rfl; simp; done) | (with_reducible apply RD.alloc) | (with_reducible apply RD.drew) | (with_reducible apply RD.drewN) | ((with_reducible apply RD.belowR); (with_reducible assumption)))); done))); (have := hkp.size; simp; omega); intro v3 w3 ho3 hg3 hat3)
      go_roundw
      case rel => exact ⟨k + 1, by omega, by go_num, by rw [← HN.out]; exact ho3, Kp.app hg3 hkp.alloc.alloc hi⟩
      case measure => simp [intOf]; omega
    · have hkl : Hid ((l.take k).map Prod.fst = l.map Prod.fst) := hide (by rw [List.take_of_length_le (by omega)])
      clear ho hu
      go_wp2
      go_ret
      exact ⟨_, rfl, by rw [← hkl.out]; exact HO.out, hkp.bel⟩
end Go.Proofs.YtfgbbmjnjppfnaaDoor
namespace Go.Proofs.YtfgbbmjnjppfnaaDoor
open Go.ChangeShapes Go.WideShapes Go.ChangeAt Go.RowKit
set_option linter.unusedVariables false
set_option linter.unusedSimpArgs false

theorem topF_spec (l : List IP) (lo : Nat) : ∀ n k a al, lo ≤ a → a < k → (∀ j, lo ≤ j → j < k → gv l a ≤ gv l j) → (al = true → ∀ j, lo ≤ j → j < k → j ≠ a → gv l a < gv l j) → (al = false → ∃ j, lo ≤ j ∧ j < k ∧ j ≠ a ∧ gv l j = gv l a) →
    lo ≤ (topF l n k a al).1 ∧ (topF l n k a al).1 < k + n ∧ (∀ j, lo ≤ j → j < k + n → gv l (topF l n k a al).1 ≤ gv l j) ∧ ((topF l n k a al).2 = true → ∀ j, lo ≤ j → j < k + n → j ≠ (topF l n k a al).1 → gv l (topF l n k a al).1 < gv l j) ∧
      ((topF l n k a al).2 = false → ∃ j, lo ≤ j ∧ j < k + n ∧ j ≠ (topF l n k a al).1 ∧ gv l j = gv l (topF l n k a al).1)
  | 0, k, a, al, h0, h1, h2, h3, h4 => ⟨h0, by simpa [topF] using h1, by simpa [topF] using h2, by simpa [topF] using h3, by simpa [topF] using h4⟩
  | n + 1, k, a, al, h0, h1, h2, h3, h4 => by
    rw [topF, show k + (n + 1) = (k + 1) + n from by omega]
    split
    · rename_i hlt
      refine topF_spec l lo n (k + 1) k true (by omega) (by omega) (fun j j1 j2 => ?_) (fun _ j j1 j2 j3 => ?_) (by simp)
      · rcases Nat.lt_or_ge j k with h | h
        · have := h2 j j1 h; omega
        · rw [show j = k from by omega]; exact Int.le_refl _
      · have := h2 j j1 (by omega); omega
    · rename_i hnl
      split
      · rename_i heq
        refine topF_spec l lo n (k + 1) a false h0 (by omega) (fun j j1 j2 => ?_) (by simp) (fun _ => ⟨k, by omega, by omega, by omega, heq⟩)
        rcases Nat.lt_or_ge j k with h | h
        · exact h2 j j1 h
        · rw [show j = k from by omega]; omega
      · rename_i hne
        refine topF_spec l lo n (k + 1) a al h0 (by omega) (fun j j1 j2 => ?_) (fun hal j j1 j2 j3 => ?_) (fun hal => ?_)
        · rcases Nat.lt_or_ge j k with h | h
          · exact h2 j j1 h
          · rw [show j = k from by omega]; omega
        · rcases Nat.lt_or_ge j k with h | h
          · exact h3 hal j j1 h j3
          · rw [show j = k from by omega]; omega
        · obtain ⟨j, a1, a2, a3, a4⟩ := h4 hal
          exact ⟨j, a1, by omega, a3, a4⟩
theorem topS_min (l : List IP) (lo hi : Nat) (h : lo < hi) : (∀ j, lo ≤ j → j < hi → gv l (topS l lo hi).1 ≤ gv l j) ∧ ((topS l lo hi).2 = true → ∀ j, lo ≤ j → j < hi → j ≠ (topS l lo hi).1 → gv l (topS l lo hi).1 < gv l j) := by
  have := topF_spec l lo (hi - (lo + 1)) (lo + 1) lo true (Nat.le_refl _) (by omega) (fun j a b => by rw [show j = lo from by omega]; exact Int.le_refl _) (fun _ j a b c => by omega) (by simp)
  rw [show lo + 1 + (hi - (lo + 1)) = hi from by omega] at this
  exact ⟨this.2.2.1, this.2.2.2.1⟩

def treeOf (l : List IP) (d : Int) : T × Bool :=
  if h : l = [] then (.nil, true)
  else
    have := topS_in l 0 l.length (List.length_pos_iff.2 h)
    if (topS l 0 l.length).2 = true ∧ gv l (topS l 0 l.length).1 = d then
      (.node (gk l (topS l 0 l.length).1) (treeOf (l.take (topS l 0 l.length).1) (d + 1)).1 (treeOf (l.drop ((topS l 0 l.length).1 + 1)) (d + 1)).1,
        (treeOf (l.take (topS l 0 l.length).1) (d + 1)).2 && (treeOf (l.drop ((topS l 0 l.length).1 + 1)) (d + 1)).2)
    else (.nil, false)
termination_by l.length
decreasing_by all_goals simp <;> omega
theorem treeOf_nil (d : Int) : treeOf [] d = (.nil, true) := by rw [treeOf]; simp
theorem treeOf_node (l : List IP) (d : Int) (m : Nat) (hm : m < l.length) (h1 : gv l m = d) (h2 : ∀ j, j < l.length → j ≠ m → d < gv l j) : treeOf l d = (.node (gk l m) (treeOf (l.take m) (d + 1)).1 (treeOf (l.drop (m + 1)) (d + 1)).1, (treeOf (l.take m) (d + 1)).2 && (treeOf (l.drop (m + 1)) (d + 1)).2) := by
  have ht := topS_find l 0 l.length m (by omega) hm (fun j _ b c => by rw [h1]; exact h2 j b c)
  rw [treeOf, dif_neg (by rintro rfl; simp at hm)]
  simp only [ht, h1, and_self, if_true]
theorem treeOf_none (l : List IP) (d : Int) (h0 : l ≠ []) (h : ¬ ∃ m, m < l.length ∧ gv l m = d ∧ ∀ j, j < l.length → j ≠ m → d < gv l j) : treeOf l d = (.nil, false) := by
  have hpos := List.length_pos_iff.2 h0
  rw [treeOf, dif_neg h0]
  simp only
  rw [if_neg]
  rintro ⟨h1, h2⟩
  have ht := topS_in l 0 l.length hpos
  have hmn := (topS_min l 0 l.length hpos).2 h1
  exact h ⟨_, ht.2, h2, fun j a b => by have := hmn j (by omega) a b; omega⟩

def TrPost (r : T × Bool) (w : World) (e : Ending) (w' : World) : Prop := ∃ p, e = .returned (.tuple #[.pointer p, .bool r.2]) ∧ TR w' r.1 p ∧ Below w.heap.size w w'
def ToRel (l : List IP) (d : Int) (w : World) (av iv : Value) (wr : World) : Prop :=
  ∃ (k : Nat) (a : Int), k ≤ l.length ∧ iv = .int .i64 k ∧ av = .int .i64 a ∧ (∀ j (h : j < l.length), j < k → d ≤ l[j].2) ∧ ((a = -1 ∧ ∀ j (h : j < l.length), j < k → l[j].2 ≠ d) ∨ ∃ (m : Nat) (hm : m < l.length), a = m ∧ m < k ∧ l[m].2 = d ∧ ∀ j (h : j < l.length), j < k → j ≠ m → l[j].2 ≠ d) ∧ Kp w wr

set_option maxRecDepth 100000 in
set_option maxHeartbeats 4000000 in
theorem treeOf_any (n : Nat) : ∀ (l : List IP) (v : Value) (d : Int) (w : World), l.length ≤ n → n ≤ 100000 → 0 ≤ d → d + n ≤ 1000000 → RD w ePair v l → Calls Tryd.prog 59 #[v, .int .i64 d] w (TrPost (treeOf l d) w) := by
  induction n with
  | zero =>
    intro l v d w h1 h2 h3 h4 hr
    obtain rfl : l = [] := List.eq_nil_of_length_eq_zero (by omega)
    obtain ⟨A, c, rfl, hc, hm⟩ := hr.shape
    clear hr
    go_enter Tryd.func59, Tryd.ntmps59
    go_wp2
    go_ret2
    exact ⟨_, by rw [treeOf_nil]; rfl, by rw [treeOf_nil]; rfl, Below.refl _ _⟩
  | succ n ih =>
    intro l v d w h1 h2 h3 h4 hr
    have IH := hide ih
    clear ih
    obtain ⟨A, c, rfl, hc, hm⟩ := hr.shape
    by_cases hl0 : l = []
    · subst hl0
      clear hr
      go_enter Tryd.func59, Tryd.ntmps59
      go_wp2
      go_ret2
      exact ⟨_, by rw [treeOf_nil]; rfl, by rw [treeOf_nil]; rfl, Below.refl _ _⟩
    · have hpos : 0 < l.length := List.length_pos_iff.2 hl0
      have hle0 : ((l.length : Int) == 0) = false := by rw [beq_eq_false_iff_ne]; omega
      have HL0 := hide hl0
      have HR := hide hr
      clear hr hl0
      go_enter Tryd.func59, Tryd.ntmps59
      go_wp2
      go_loopw [6, 18] (ToRel l d w) (fun _ i _ => l.length - (intOf i).toNat)
      case atStart => exact ⟨0, -1, by omega, rfl, rfl, fun j h a => by omega, .inl ⟨rfl, fun j h a => by omega⟩, Kp.refl _⟩
      case round =>
        obtain ⟨k, a, hk, rfl, rfl, hge, hat, hkp⟩ := hrel
        have HGE := hide hge
        have HAT := hide hat
        clear hge hat
        by_cases hlt : k < l.length
        · obtain ⟨b, o, rfl, _, c0, c1⟩ := (HR.out.kp hkp).pair hlt
          obtain ⟨y, hy⟩ : ∃ y, y = l[k].2 := ⟨_, rfl⟩
          rw [← hy] at c1
          have HY := hide hy
          have hgvk : Hid (gv l k = y) := hide (by rw [gv_eq l k hlt, hy])
          clear hy
          by_cases hyd : y = d
          · have d1 : (y == d) = true := by simp [hyd]
            have d2 : decide (y < d) = false := by simp; omega
            rcases HAT.out with ⟨rfl, hno⟩ | ⟨m, hml, rfl, hmk, hmd, hno⟩
            · have HN : Hid (∀ j (h : j < l.length), j < k + 1 → d ≤ l[j].2) := hide (fun j h a => by
                rcases Nat.lt_or_ge j k with h9 | h9
                · exact HGE.out j h h9
                · have : j = k := by omega
                  subst this; rw [← HY.out]; omega)
              have HN2 : Hid (∃ (m : Nat) (hm : m < l.length), (k : Int) = m ∧ m < k + 1 ∧ l[m].2 = d ∧ ∀ j (h : j < l.length), j < k + 1 → j ≠ m → l[j].2 ≠ d) := hide ⟨k, hlt, rfl, by omega, by rw [← HY.out]; exact hyd, fun j h a b => hno j h (by omega)⟩
              clear hno hyd
              go_wp2
              go_roundw
              case rel => exact ⟨k + 1, k, by omega, by go_num, rfl, HN.out, .inr HN2.out, hkp.alloc⟩
              case measure => simp [intOf]; omega
            · have H1 : Hid (treeOf l d = (.nil, false)) := hide (treeOf_none l d HL0.out (by
                rintro ⟨x, x1, x2, x3⟩
                by_cases hxm : x = m
                · subst hxm
                  have := x3 k hlt (by omega); rw [hgvk.out] at this; omega
                · have := x3 m hml (fun e => hxm e.symm); rw [gv_eq l m hml] at this; omega))
              have d3 : (0 : Int) ≤ (m : Int) := by omega
              clear hno hyd hmd
              go_wp2
              go_ret2
              exact ⟨_, by rw [H1.out]; rfl, by rw [H1.out]; rfl, hkp.alloc.bel⟩
          · have d1 : (y == d) = false := by simp [hyd]
            by_cases hyl : y < d
            · have H1 : Hid (treeOf l d = (.nil, false)) := hide (treeOf_none l d HL0.out (by
                rintro ⟨x, x1, x2, x3⟩
                by_cases hxm : k = x
                · subst hxm; rw [hgvk.out] at x2; omega
                · have := x3 k hlt hxm; rw [hgvk.out] at this; omega))
              clear hyd
              go_wp2
              go_ret2
              exact ⟨_, by rw [H1.out]; rfl, by rw [H1.out]; rfl, hkp.alloc.bel⟩
            · have d2 : decide (y < d) = false := by simp; omega
              have HN : Hid (∀ j (h : j < l.length), j < k + 1 → d ≤ l[j].2) := hide (fun j h a => by
                rcases Nat.lt_or_ge j k with h9 | h9
                · exact HGE.out j h h9
                · have : j = k := by omega
                  subst this; rw [← HY.out]; omega)
              have HN2 : Hid ((a = -1 ∧ ∀ j (h : j < l.length), j < k + 1 → l[j].2 ≠ d) ∨ ∃ (m : Nat) (hm : m < l.length), a = m ∧ m < k + 1 ∧ l[m].2 = d ∧ ∀ j (h : j < l.length), j < k + 1 → j ≠ m → l[j].2 ≠ d) := hide (by
                have hk' : ∀ j (h : j < l.length), j < k + 1 → j = k ∨ j < k := fun j h a => by omega
                rcases HAT.out with ⟨e, hno⟩ | ⟨m, hml, e, hmk, hmd, hno⟩
                · refine .inl ⟨e, fun j h a => ?_⟩
                  rcases hk' j h a with rfl | h9
                  · rw [← HY.out]; exact hyd
                  · exact hno j h h9
                · refine .inr ⟨m, hml, e, by omega, hmd, fun j h a b => ?_⟩
                  rcases hk' j h a with rfl | h9
                  · rw [← HY.out]; exact hyd
                  · exact hno j h h9 b)
              clear hyd hyl
              go_wp2
              go_roundw
              case rel => exact ⟨k + 1, a, by omega, by go_num, rfl, HN.out, HN2.out, hkp.alloc⟩
              case measure => simp [intOf]; omega
        · rcases HAT.out with ⟨rfl, hno⟩ | ⟨m, hml, rfl, hmk, hmd, hno⟩
          · have H1 : Hid (treeOf l d = (.nil, false)) := hide (treeOf_none l d HL0.out (by
              rintro ⟨x, x1, x2, x3⟩
              rw [gv_eq l x x1] at x2
              exact hno x x1 (by omega) x2))
            clear hno
            go_wp2
            go_ret2
            exact ⟨_, by rw [H1.out]; rfl, by rw [H1.out]; rfl, hkp.bel⟩
          · have H1 : Hid (treeOf l d = (.node (gk l m) (treeOf (l.take m) (d + 1)).1 (treeOf (l.drop (m + 1)) (d + 1)).1, (treeOf (l.take m) (d + 1)).2 && (treeOf (l.drop (m + 1)) (d + 1)).2)) := hide (treeOf_node l d m hml (by rw [gv_eq l m hml, hmd]) (fun j h b => by
              rw [gv_eq l j h]
              have h5 := HGE.out j h (by omega)
              have h6 := hno j h (by omega) b
              omega))
            obtain ⟨b, o, rfl, _, c0, c1⟩ := (HR.out.kp hkp).pair hml
            have hgk := gk_eq l m hml
            obtain ⟨A2, hif⟩ : ∃ A2, (if c = m + 1 then some (⟨b, o, none⟩ : Addr) else some ⟨b, o + (m + 1) * 2, none⟩) = A2 := ⟨_, rfl⟩
            have HC1 := hide (fun W (h : Kp wr W) => IH.out (l.take m) (.slice (some ⟨b, o, none⟩) m c) (d + 1) W (by simp; omega) (by omega) (by omega) (by omega) (((HR.out.kp hkp).kp h).takeS (by omega)))
            have HC2 := hide (fun W (h : Kp wr W) => IH.out (l.drop (m + 1)) (.slice A2 (l.length - (m + 1)) (c - (m + 1))) (d + 1) W (by simp; omega) (by omega) (by omega) (by omega) (((HR.out.kp hkp).kp h).dropS (by omega) rfl hif))
            obtain ⟨P1, hP1⟩ : ∃ P, P = treeOf (l.take m) (d + 1) := ⟨_, rfl⟩
            obtain ⟨P2, hP2⟩ : ∃ P, P = treeOf (l.drop (m + 1)) (d + 1) := ⟨_, rfl⟩
            rw [← hP1] at HC1 H1
            rw [← hP2] at HC2 H1
            obtain ⟨t1, r1⟩ := P1
            obtain ⟨t2, r2⟩ := P2
            rw [hgk] at H1
            simp only at H1
            have HK := hide hkp
            have b1 : (m : Int) < (l.length : Int) := by omega
            have b2 : (m : Int) ≤ (c : Int) := by omega
            have b3 : (0 : Int) ≤ (m : Int) := by omega
            have b4 : (m : Int) + 1 ≤ (l.length : Int) := by omega
            have b5 : (0 : Int) ≤ (m : Int) + 1 := by omega
            have tn : ((m : Int) + 1).toNat = m + 1 := by omega
            have hw : IntKind.i64.wrap ((m : Int) + 1) = (m : Int) + 1 := IntWalk.i64_in _ (by omega)
            have hw2 : IntKind.i64.wrap (d + 1) = d + 1 := IntWalk.i64_in _ (by omega)
            clear hP1 hP2 hgk hno hmd
            go_wp2_with fail
            with_reducible refine (HC1.out _ (Kp.refl _)).mono ?_
            rintro e w1 ⟨p1, rfl, ht1, hb1⟩
            have kk1 := Kp.of hb1
            have HT1 := hide ht1
            clear ht1 hb1
            go_wp2_with fail
            with_reducible refine (HC2.out _ kk1).mono ?_
            rintro e w2 ⟨p2, rfl, ht2, hb2⟩
            have kk2 := Kp.of hb2
            have HT2 := hide ht2
            have c2 := (kk1.trans kk2).cell c0
            clear ht2 hb2 c0 c1
            cases r1 with
            | true =>
              go_wp2
              go_ret2
              exact ⟨_, by rw [H1.out]; rfl, by rw [H1.out]; exact TR.mk (HT1.out.kp kk2) HT2.out _, (HK.out.trans (kk1.trans kk2)).alloc.bel⟩
            | false =>
              go_wp2
              go_ret2
              exact ⟨_, by rw [H1.out]; rfl, by rw [H1.out]; exact TR.mk (HT1.out.kp kk2) HT2.out _, (HK.out.trans (kk1.trans kk2)).alloc.bel⟩
end Go.Proofs.YtfgbbmjnjppfnaaDoor
namespace Go.Proofs.YtfgbbmjnjppfnaaDoor
open Go.ChangeShapes Go.WideShapes Go.ChangeAt Go.RowKit
set_option linter.unusedVariables false
set_option linter.unusedSimpArgs false

def toT (l : List IP) : PT → T
  | .nil => .nil
  | .node p a b => .node (gk l p) (toT l a) (toT l b)
theorem seg_len (l : List IP) (lo hi : Nat) (h1 : lo ≤ hi) (h2 : hi ≤ l.length) : ((l.take hi).drop lo).length = hi - lo := by simp; omega
theorem seg_gv (l : List IP) (lo hi j : Nat) (h2 : hi ≤ l.length) (hj : j < hi - lo) : gv ((l.take hi).drop lo) j = gv l (lo + j) := by
  rw [gv_eq _ j (by rw [seg_len l lo hi (by omega) h2]; exact hj), gv_eq l (lo + j) (by omega)]; simp
theorem seg_gk (l : List IP) (lo hi j : Nat) (h2 : hi ≤ l.length) (hj : j < hi - lo) : gk ((l.take hi).drop lo) j = gk l (lo + j) := by
  rw [gk_eq _ j (by rw [seg_len l lo hi (by omega) h2]; exact hj), gk_eq l (lo + j) (by omega)]; simp
theorem seg_take (l : List IP) (lo hi m : Nat) (h : lo ≤ m) (hm : m ≤ hi) : ((l.take hi).drop lo).take (m - lo) = (l.take m).drop lo := by
  rw [List.take_drop, show lo + (m - lo) = m from by omega, List.take_take, Nat.min_eq_left hm]
theorem seg_drop (l : List IP) (lo hi m : Nat) (h : lo ≤ m) : ((l.take hi).drop lo).drop (m - lo + 1) = (l.take hi).drop (m + 1) := by
  rw [List.drop_drop]; congr 1; omega
theorem treeOf_seg (l : List IP) (lo hi : Nat) (d : Int) (h1 : lo ≤ hi) (h2 : hi ≤ l.length) :
    (treeOf ((l.take hi).drop lo) d).2 = (ptR l lo hi d).isSome ∧ ∀ t, ptR l lo hi d = some t → (treeOf ((l.take hi).drop lo) d).1 = toT l t := by
  by_cases hlt : lo < hi
  · have hsl := seg_len l lo hi h1 h2
    have htin := topS_in l lo hi hlt
    have hmin := topS_min l lo hi hlt
    by_cases hok : (topS l lo hi).2 = true ∧ gv l (topS l lo hi).1 = d
    · obtain ⟨m, hm⟩ : ∃ m, m = (topS l lo hi).1 := ⟨_, rfl⟩
      have htop : topS l lo hi = (m, true) := by rw [hm, ← hok.1]
      have hgd : gv l m = d := by rw [hm]; exact hok.2
      have hst := hmin.2 hok.1
      rw [← hm] at htin hst
      have hnode := treeOf_node ((l.take hi).drop lo) d (m - lo) (by omega) (by rw [seg_gv l lo hi _ h2 (by omega), show lo + (m - lo) = m from by omega, hgd]) (fun j j1 j2 => by
        rw [seg_gv l lo hi j h2 (by omega)]
        have := hst (lo + j) (by omega) (by omega) (by omega)
        omega)
      rw [seg_take l lo hi m (by omega) (by omega), seg_drop l lo hi m (by omega), seg_gk l lo hi _ h2 (by omega), show lo + (m - lo) = m from by omega] at hnode
      obtain ⟨a1, a2⟩ := treeOf_seg l lo m (d + 1) htin.1 (by omega)
      obtain ⟨b1, b2⟩ := treeOf_seg l (m + 1) hi (d + 1) (by omega) h2
      rw [hnode, ptR_node l lo hi d hlt m htop hgd]
      simp only
      rw [a1, b1]
      cases ha : ptR l lo m (d + 1) with
      | none => simp
      | some ta =>
        cases hb : ptR l (m + 1) hi (d + 1) with
        | none => simp
        | some tb =>
          refine ⟨rfl, fun t ht => ?_⟩
          simp only [Option.some.injEq] at ht
          subst ht
          rw [a2 ta ha, b2 tb hb]; rfl
    · rw [treeOf_none ((l.take hi).drop lo) d (by intro e; rw [e] at hsl; simp at hsl; omega) (by
        rintro ⟨x, x1, x2, x3⟩
        rw [hsl] at x1
        rw [seg_gv l lo hi x h2 x1] at x2
        have ht := topS_find l lo hi (lo + x) (by omega) (by omega) (fun j j1 j2 j3 => by
          have := x3 (j - lo) (by omega) (by omega)
          rw [seg_gv l lo hi _ h2 (by omega), show lo + (j - lo) = j from by omega] at this
          omega)
        exact hok ⟨by rw [ht], by rw [ht]; exact x2⟩), ptR_none l lo hi d hlt hok]
      exact ⟨rfl, fun t ht => by cases ht⟩
  · obtain rfl : lo = hi := by omega
    have : (l.take lo).drop lo = [] := by simp
    rw [this, treeOf_nil, ptR_nil l lo lo d hlt]
    exact ⟨rfl, fun t ht => by injection ht with ht; subst ht; rfl⟩
termination_by hi - lo
theorem treeOf_whole (l : List IP) : (treeOf l 0).2 = (ptR l 0 l.length 0).isSome ∧ ∀ t, ptR l 0 l.length 0 = some t → (treeOf l 0).1 = toT l t := by
  have := treeOf_seg l 0 l.length 0 (by omega) (Nat.le_refl _)
  simpa using this
theorem toT_spots (l : List IP) : ∀ (t : PT) (lo hi : Nat) (d : Int), t.At lo → hi = lo + t.size → hi ≤ l.length → (∀ j, j < t.size → some (gv l (lo + j)) = (t.deps d)[j]?) → (toT l t).spots d = (l.take hi).drop lo
  | .nil, lo, hi, d, _, h, _, _ => by simp [PT.size] at h; subst h; simp [toT, T.spots]
  | .node p a b, lo, hi, d, ⟨hp, ha, hb⟩, h, h3, hg => by
    simp only [PT.size] at h hg
    have hgp : gv l p = d := by
      have := hg a.size (by omega)
      rw [PT.deps_node, if_neg (by omega), if_pos rfl, ← hp] at this
      exact Option.some.inj this
    have ia := toT_spots l a lo p (d + 1) ha hp (by omega) (fun j hj => by
      have := hg j (by omega)
      rwa [PT.deps_node, if_pos hj] at this)
    have ib := toT_spots l b (p + 1) hi (d + 1) hb (by omega) h3 (fun j hj => by
      have := hg (a.size + 1 + j) (by omega)
      rw [PT.deps_node, if_neg (by omega), if_neg (by omega), show a.size + 1 + j - (a.size + 1) = j from by omega, show lo + (a.size + 1 + j) = p + 1 + j from by omega] at this
      exact this)
    rw [toT, T.spots, ia, ib, seg_split l lo p hi (by omega) (by omega) h3]
    have : ((gk l p, d) : IP) = l[p]'(by omega) := Prod.ext (gk_eq l p (by omega)) (by rw [← hgp]; exact gv_eq l p (by omega))
    rw [this]
theorem treeOf_spots (l : List IP) (h : (parOf l).2 = 0) : (treeOf l 0).1.spots 0 = l ∧ (treeOf l 0).2 = true := by
  obtain ⟨h1, h2, t, ht, _⟩ := parOf_len l h
  obtain ⟨h3, h4, h5⟩ := ptR_to l 0 l.length 0 t (by omega) ht
  obtain ⟨w1, w2⟩ := treeOf_whole l
  refine ⟨?_, by rw [w1, ht]; rfl⟩
  rw [w2 t ht, toT_spots l t 0 l.length 0 h3 (by omega) (Nat.le_refl _) h5]
  simp

set_option maxHeartbeats 2000000 in
theorem spotsRight_any (l : List IP) (v : Value) (w : World) (hr : RD w ePair v l) : Calls Tryd.prog 38 #[v] w (Ret (.int .i64 (parOf l).2) w) := by
  obtain ⟨A, c, rfl, hc, hm⟩ := hr.shape
  by_cases hlen : l.length > 200
  · have hp : Hid ((parOf l).2 = 2) := hide (by
      have : mapRight l = 2 := by rw [mapRight, if_pos hlen]
      rw [parOf, if_pos (by rw [this]; decide), this])
    go_enter Tryd.func38, Tryd.ntmps38
    go_wp2
    go_ret
    exact ⟨by rw [hp.out]; rfl, Below.refl _ _⟩
  · have hres : Hid (mapRight l = mrFrom (-1) l) := hide (by simp [mapRight, hlen])
    have h3f : Hid (mrFrom (-1) l = 3 → (parOf l).2 = 3) := hide (fun h => by rw [parOf, hres.out, h, if_pos (by decide)])
    have HTO := hide (fun W h => treeOf_any 1000 l (.slice A l.length c) 0 W (by omega) (by omega) (by omega) (by omega) h)
    have HPO : Hid (mrFrom (-1) l = 0 → (parOf l).2 = if (treeOf l 0).2 then 0 else 3) := hide (fun h => by
      rw [parOf, hres.out, h, if_neg (by decide), (treeOf_whole l).1]
      cases ptR l 0 l.length 0 <;> rfl)
    obtain ⟨P, hP⟩ : ∃ P, P = treeOf l 0 := ⟨_, rfl⟩
    rw [← hP] at HTO HPO
    obtain ⟨t, r⟩ := P
    have HR := hide hr
    clear hr hP
    go_enter Tryd.func38, Tryd.ntmps38
    go_wp2
    go_loopw [3, 13] (MRel l w) (fun a i wr => l.length - (intOf i).toNat)
    case atStart => exact ⟨0, -1, by omega, rfl, rfl, by omega, by omega, rfl, Below.refl _ _⟩
    case round =>
      obtain ⟨k, last, hk, rfl, rfl, h1, h2, hmr, hbel⟩ := hrel
      have hmr' := hide hmr
      clear hmr
      have hz := hbel.size
      by_cases hlt : k < l.length
      · obtain ⟨b, o, rfl, hb, c0, c1⟩ := (HR.out.below hbel).pair hlt
        have hd := mrFrom_drop l k hlt last
        rcases btw_cases l[k].1 (last + 1) 1000000 with ⟨hB, hb3, hb4⟩ | ⟨hB, hb3⟩
        · rw [hB, if_pos rfl] at hd
          have hd' := hide hd
          clear hd
          have hB' := hide hB
          clear hB
          go_wp2_with (go_at_call 12; refine (between_to _ _ _ true _ hB'.out).mono ?_; rintro e w' ⟨rfl, rfl⟩)
          go_roundw
          case rel => exact ⟨k+1, l[k].1, by omega, by go_num, rfl, by omega, by omega, by rw [← hd'.out, hmr'.out], hbel.alloc hbel.size _⟩
          case measure => simp [intOf]; omega
        · rw [hB, if_neg (by simp)] at hd
          have HP := hide (h3f.out (by rw [← hmr'.out, hd]))
          clear hd
          have hB' := hide hB
          clear hB hb3
          go_wp2_with (go_at_call 12; refine (between_to _ _ _ false _ hB'.out).mono ?_; rintro e w' ⟨rfl, rfl⟩)
          go_ret
          exact ⟨by rw [HP.out]; rfl, hbel.alloc hbel.size _⟩
      · have HP := hide (HPO.out (by rw [← hmr'.out, mrFrom_end _ _ hlt]))
        have hkp : Kp w wr := hbel
        cases r with
        | true =>
          go_wp2_with fail
          refine (HTO.out _ (HR.out.kp hkp)).mono ?_
          rintro e w1 ⟨p1, rfl, _, hb1⟩
          go_wp2
          go_ret
          exact ⟨by rw [HP.out]; rfl, (hkp.trans hb1).bel⟩
        | false =>
          go_wp2_with fail
          refine (HTO.out _ (HR.out.kp hkp)).mono ?_
          rintro e w1 ⟨p1, rfl, _, hb1⟩
          go_wp2
          go_ret
          exact ⟨by rw [HP.out]; rfl, (hkp.trans hb1).bel⟩
end Go.Proofs.YtfgbbmjnjppfnaaDoor
namespace Go.Proofs.YtfgbbmjnjppfnaaDoor
open Go.ChangeShapes Go.WideShapes Go.ChangeAt Go.RowKit
set_option linter.unusedVariables false
set_option linter.unusedSimpArgs false

/-- A slice of slices. -/
def RDS {α : Type} (w : World) (E : Enc α) (v : Value) (ls : List (List α)) : Prop :=
  ∃ A c, v = .slice A ls.length c ∧ ls.length ≤ c ∧ c ≤ maxLen ∧ (0 < ls.length → ∃ b o, A = some ⟨b, o, none⟩ ∧ b < w.heap.size ∧
    ∀ k (h : k < ls.length), ∃ u, w.cell? ⟨b, o + k, none⟩ = some u ∧ RD w E u ls[k])
section
variable {α : Type} {w w' : World} {E : Enc α} {v : Value} {ls : List (List α)}
theorem RDS.shape (h : RDS w E v ls) : ∃ A c, v = .slice A ls.length c ∧ ls.length ≤ c ∧ c ≤ 9223372036854775807 := by
  obtain ⟨A, c, rfl, h1, h2, h3⟩ := h
  exact ⟨A, c, rfl, h1, by unfold maxLen at h2; omega⟩
theorem RDS.at_ {A : Option Addr} {n c : Nat} (h : RDS w E (.slice A n c) ls) {k : Nat} (hk : k < ls.length) :
    ∃ b o u, A = some ⟨b, o, none⟩ ∧ b < w.heap.size ∧ w.cell? ⟨b, o + k, none⟩ = some u ∧ RD w E u ls[k] := by
  obtain ⟨A', c', e, h1, h2, h3⟩ := h
  injection e with e1 e2 e3
  subst e1
  obtain ⟨b, o, rfl, hb, hc⟩ := h3 (by omega)
  obtain ⟨u, h4, h5⟩ := hc k hk
  exact ⟨b, o, u, rfl, hb, h4, h5⟩
theorem RDS.kp (h : RDS w E v ls) (hb : Kp w w') : RDS w' E v ls := by
  obtain ⟨A, c, rfl, h1, h2, h3⟩ := h
  refine ⟨A, c, rfl, h1, h2, fun h0 => ?_⟩
  obtain ⟨b, o, rfl, hb', hc⟩ := h3 h0
  refine ⟨b, o, rfl, Nat.lt_of_lt_of_le hb' hb.size, fun k hk => ?_⟩
  obtain ⟨u, h4, h5⟩ := hc k hk
  exact ⟨u, hb.cell h4, h5.kp hb⟩
end
theorem RDS.new2 {α : Type} {w : World} {E : Enc α} {a b : List α} {va vb : Value} {t : TypeId} {g : Nat} (hg : w.heap.size = g) (ha : RD w E va a) (hb : RD w E vb b) : RDS (w.alloc (.cells #[va, vb] t)) E (.slice (some ⟨g, 0, none⟩) 2 2) [a, b] := by
  subst hg
  have hk : Kp w (w.alloc (.cells #[va, vb] t)) := (Kp.refl w).alloc
  refine ⟨_, _, rfl, Nat.le_refl _, by simp [maxLen], fun _ => ⟨w.heap.size, 0, rfl, by simp, fun k h => ?_⟩⟩
  have hc := fun i => cell_of_row _ _ i _ t (0, 0) (heap_alloc_new w (.cells #[va, vb] t))
  match k, h with
  | 0, _ => exact ⟨va, hc 0, ha.kp hk⟩
  | 1, _ => exact ⟨vb, hc 1, hb.kp hk⟩
theorem RDS.new1 {α : Type} {w : World} {E : Enc α} {a : List α} {va : Value} {t : TypeId} {g : Nat} (hg : w.heap.size = g) (ha : RD w E va a) : RDS (w.alloc (.cells #[va] t)) E (.slice (some ⟨g, 0, none⟩) 1 1) [a] := by
  subst hg
  have hk : Kp w (w.alloc (.cells #[va] t)) := (Kp.refl w).alloc
  refine ⟨_, _, rfl, Nat.le_refl _, by simp [maxLen], fun _ => ⟨w.heap.size, 0, rfl, by simp, fun k h => ?_⟩⟩
  have hc := fun i => cell_of_row _ _ i _ t (0, 0) (heap_alloc_new w (.cells #[va] t))
  match k, h with
  | 0, _ => exact ⟨va, hc 0, ha.kp hk⟩
end Go.Proofs.YtfgbbmjnjppfnaaDoor
namespace Go.Proofs.YtfgbbmjnjppfnaaDoor
open Go.ChangeShapes Go.WideShapes Go.ChangeAt Go.RowKit
set_option linter.unusedVariables false
set_option linter.unusedSimpArgs false

def okL (l : List Int) : Bool := l.all fun e => e == 0
def OkRel (l : List Int) (w : World) (i : Value) (wr : World) : Prop := ∃ k : Nat, k ≤ l.length ∧ i = .int .i64 k ∧ okL (l.drop k) = okL l ∧ w = wr

set_option maxHeartbeats 400000 in
theorem ok_any (l : List Int) (v : Value) (w : World) (hr : RD w eInt v l) : Calls Tryd.prog 27 #[v] w fun e w' => e = .returned (.bool (okL l)) ∧ w = w' := by
  obtain ⟨A, c, rfl, hc, hm⟩ := hr.shape
  have HR := hide hr
  clear hr
  go_enter Tryd.func27, Tryd.ntmps27
  go_wp2
  go_loopw [7] (OkRel l w) (fun i _ => l.length - (intOf i).toNat)
  case atStart => exact ⟨0, by omega, rfl, rfl, rfl⟩
  case round =>
    obtain ⟨k, hk, rfl, hok, rfl⟩ := hrel
    have HO := hide hok
    clear hok
    by_cases hlt : k < l.length
    · obtain ⟨b, o, rfl, hb, c0⟩ := HR.out.int hlt
      have hd : Hid (okL (l.drop k) = (l[k] == 0 && okL (l.drop (k + 1)))) := hide (by rw [List.drop_eq_getElem_cons hlt]; rfl)
      by_cases h0 : l[k] = 0
      · have hn : (l[k] != 0) = false := by simp [h0]
        have hst : Hid (okL (l.drop (k + 1)) = okL l) := hide (by rw [← HO.out, hd.out, h0]; rfl)
        clear h0
        go_wp2
        go_roundw
        case rel => exact ⟨k + 1, by omega, by go_num, hst.out, rfl⟩
        case measure => simp [intOf]; omega
      · have hn : (l[k] != 0) = true := by simp [h0]
        have hst : Hid (okL l = false) := hide (by rw [← HO.out, hd.out]; simp [h0])
        clear h0
        go_wp2
        go_ret
        exact ⟨by rw [hst.out]; rfl, rfl⟩
    · have hst : Hid (okL l = true) := hide (by rw [← HO.out, List.drop_of_length_le (by omega)]; rfl)
      go_wp2
      go_ret
      exact ⟨by rw [hst.out]; rfl, rfl⟩
end Go.Proofs.YtfgbbmjnjppfnaaDoor
namespace Go.Proofs.YtfgbbmjnjppfnaaDoor
open Go.ChangeShapes Go.WideShapes Go.ChangeAt Go.RowKit
set_option linter.unusedVariables false
set_option linter.unusedSimpArgs false

def pO (k : Int) : O3 := (1, k, 0)
theorem info_opZ : (Tryd.prog.info? 58).map (fun i => (i.zero, i.size, i.bytes)) = some (some (.agg #[.int .i64 0, .int .i64 0, .int .i64 0]), 3, 24) := by kernel_rfl
theorem row_opZ : Row Tryd.prog 37 58 eOp 24 := row_of info_opZ Tryd.underlying37 rfl rfl (by decide)
def PaRel (l : List Int) (w : World) (ov iv : Value) (wr : World) : Prop := ∃ k : Nat, k ≤ l.length ∧ iv = .int .i64 k ∧ OW wr w.heap.size 58 eOp ov ((l.take k).map pO) ∧ Kp w wr
set_option maxRecDepth 100000 in
set_option maxHeartbeats 1000000 in
theorem putAll_any (l : List Int) (v : Value) (w : World) (hr : RD w eInt v l) (hn : l.length ≤ 1048576) : Calls Tryd.prog 26 #[v] w (RetOW 58 eOp (l.map pO) w) := by
  obtain ⟨A, c, rfl, hc, hm⟩ := hr.shape
  have HR := hide hr
  clear hr
  go_enter Tryd.func26, Tryd.ntmps26
  go_wp2
  go_loopw [3, 8] (PaRel l w) (fun _ i _ => l.length - (intOf i).toNat)
  case atStart => exact ⟨0, by omega, rfl, OW.nil, Kp.refl _⟩
  case round =>
    obtain ⟨k, hk, rfl, ho, hkp⟩ := hrel
    have hi := ho.hi
    have HO := hide ho
    by_cases hlt : k < l.length
    · obtain ⟨b, o, rfl, _, x0⟩ := (HR.out.kp hkp).int hlt
      obtain ⟨y, hy⟩ : ∃ y, y = l[k] := ⟨_, rfl⟩
      rw [← hy] at x0
      have HN : Hid ((l.take k).map pO ++ [((1, y, 0) : O3)] = (l.take (k + 1)).map pO) := hide (by rw [List.take_succ_eq_append_getElem hlt, List.map_append, hy]; rfl)
      have HM1 : Hid ((((l.take k).map pO).length + [((1, y, 0) : O3)].length) * 24 ≤ 140737488355328) := hide (by simp; omega)
      have HM2 : Hid (((l.take k).map pO).length + [((1, y, 0) : O3)].length ≤ maxLen) := hide (by simp [maxLen]; omega)
      clear hy ho
      go_wp2_with (at_builtin; (with_reducible refine list_app (B := w.heap.size) (l := (l.take k).map pO) (m := [((1, y, 0) : O3)]) row_opZ u3 ?_ (.tmp 12) (.tmp 15) ?_ ?_ ?_ ?_ HM1.out HM2.out ?_ ?_); (with_reducible rfl); (with_reducible rfl); rfl; (exact HO.out.alloc _); (show RD _ _ (.slice (some ⟨_, 0, none⟩) 1 1) _; (focus ((repeat (first | (with_reducible assumption) | exact RD.new1 _ rfl | (refine RD.new1e _ ?_ rfl; simp; done) | (with_reducible apply RD.alloc) | (with_reducible apply RD.drew) | (with_reducible apply RD.drewN) | ((with_reducible apply RD.belowR); (with_reducible assumption)))); done))); (have := hkp.size; simp; omega); intro v3 w3 ho3 hg3 hat3)
      go_roundw
      case rel => exact ⟨k + 1, by omega, by go_num, by rw [← HN.out]; exact ho3, Kp.app hg3 hkp.alloc hi⟩
      case measure => simp [intOf]; omega
    · have hkl : Hid ((l.take k).map pO = l.map pO) := hide (by rw [List.take_of_length_le (by omega)])
      clear ho
      go_wp2
      go_ret
      exact ⟨_, rfl, by rw [← hkl.out]; exact HO.out, hkp.bel⟩

theorem zipLives_run : zipRun [(1, 0, 0), (1, 5, 0)] = ([(0, 0), (5, 1)], [⟨0, 0, 0, false⟩, ⟨0, 0, 0, false⟩], 0) := by decide +kernel
theorem zipLives_split : splitZ [(0, 0), (5, 1)] 5 = ([(0, 0)], [(5, 0)], 0) := by decide +kernel
theorem zipLives_ra : readZ [(0, 0)] = (.node 0 .nil .nil, 0) := by kernel_rfl
theorem zipLives_rb : readZ [(5, 0)] = (.node 5 .nil .nil, 0) := by kernel_rfl
theorem zipLives_ov : ov (zk 0) (zk 5) = true := by decide +kernel
theorem zipLives_merge : mergeZ [(0, 0)] [(5, 0)] = ([(0, 0), (5, 1)], 0) := by
  rw [mergeZ, if_neg (by decide +kernel), if_neg (by decide +kernel), zipLives_ra, zipLives_rb, if_neg (by decide), if_neg (by decide)]
  simp only [mapZ]
  rw [zipM_node, if_pos zipLives_ov, zipM]
  rfl
theorem okL_ok3Z : okL [0, 0, 0] = true := rfl
set_option maxRecDepth 100000 in
set_option maxHeartbeats 4000000 in
theorem zipLives_any (w : World) (hdb : DTb w) : Calls Tryd.prog 21 #[] w (Ret (.bool true) w) := by
  have H0 := hide (fun W v h => putAll_any [0, 5] v W h (by simp))
  have H1 := hide (fun W v h hd => zipRun_any [(1, 0, 0), (1, 5, 0)] v W h hd)
  have H2 := hide (fun W v h hd => zipSplit_any [(0, 0), (5, 1)] 5 v W h hd)
  have H3 := hide (fun W v u h1 h2 hd => zipMerge_any [(0, 0)] [(5, 0)] v u W h1 h2 hd)
  rw [show [0, 5].map pO = [((1, 0, 0) : O3), (1, 5, 0)] from rfl] at H0
  rw [zipLives_run] at H1
  rw [zipLives_split] at H2
  rw [zipLives_merge] at H3
  have HDB := hide hdb
  clear hdb
  go_enter Tryd.func21, Tryd.ntmps21
  go_wp2_with fail
  refine (H0.out _ _ (RD.block (l := [0, 5]) (heap_alloc_new w _) rfl (by simp [maxLen]))).mono ?_
  rintro e w1 ⟨v1, rfl, ho1, hb1⟩
  have kk1 : Kp w w1 := (Kp.refl w).alloc.trans (Kp.of hb1)
  have HR1 := hide ho1.rd
  clear ho1 hb1
  go_wp2_with fail
  with_reducible refine (H1.out _ _ HR1.out (HDB.out.kp kk1)).mono ?_
  rintro e w2 ⟨v2, u2, rfl, hr2, hu2, hb2⟩
  have kk2 : Kp w1 w2 := Kp.of hb2
  have HR2 := hide hr2
  obtain ⟨A2, c2, rfl, _, _⟩ := hu2.shape
  clear hr2 hu2 hb2
  go_wp2_with fail
  with_reducible refine (H2.out _ _ HR2.out (HDB.out.kp (kk1.trans kk2))).mono ?_
  rintro e w3 ⟨v3, u3, rfl, hr3, hu3, hb3⟩
  have kk3 : Kp w2 w3 := Kp.of hb3
  have HR3 := hide hr3
  have HU3 := hide hu3
  clear hr3 hu3 hb3
  go_wp2_with fail
  with_reducible refine (H3.out _ _ _ HR3.out HU3.out (HDB.out.kp (kk1.trans (kk2.trans kk3)))).mono ?_
  rintro e w4 ⟨v4, rfl, hr4, hb4⟩
  have kk4 : Kp w3 w4 := Kp.of hb4
  have HR4 := hide hr4
  clear hr4 hb4
  go_wp2_with fail
  refine (ok_any [0, 0, 0] _ _ (RD.block (l := [0, 0, 0]) (heap_alloc_new w4 _) rfl (by simp [maxLen]))).mono ?_
  rintro e w5 ⟨rfl, hw5⟩
  have kk5 : Kp w4 w5 := by rw [← hw5]; exact (Kp.refl w4).alloc
  clear hw5
  have hok := okL_ok3Z
  go_wp2_with fail
  refine (eqSpots_to _ _ true _ _ _ ((HR2.out.kp (kk3.trans (kk4.trans kk5))).alloc _) (RD.block (l := [(0, 0), (5, 1)]) (heap_alloc_new w5 _) rfl (by simp [maxLen])) (by decide)).mono ?_
  rintro e w6 ⟨rfl, hb6⟩
  have kk6 : Kp w5 w6 := (Kp.refl w5).alloc.trans (Kp.of hb6)
  clear hb6
  go_wp2_with fail
  refine (eqSpots_to _ _ true _ _ _ ((HR3.out.kp (kk4.trans (kk5.trans kk6))).alloc _) (RD.block (l := [(0, 0)]) (heap_alloc_new w6 _) rfl (by simp [maxLen])) (by decide)).mono ?_
  rintro e w7 ⟨rfl, hb7⟩
  have kk7 : Kp w6 w7 := (Kp.refl w6).alloc.trans (Kp.of hb7)
  clear hb7
  go_wp2_with fail
  refine (eqSpots_to _ _ true _ _ _ ((HU3.out.kp (kk4.trans (kk5.trans (kk6.trans kk7)))).alloc _) (RD.block (l := [(5, 0)]) (heap_alloc_new w7 _) rfl (by simp [maxLen])) (by decide)).mono ?_
  rintro e w8 ⟨rfl, hb8⟩
  have kk8 : Kp w7 w8 := (Kp.refl w7).alloc.trans (Kp.of hb8)
  clear hb8
  go_wp2_with fail
  refine (eqSpots_to _ _ true _ _ _ (HR4.out.kp (kk5.trans (kk6.trans (kk7.trans kk8)))) (HR2.out.kp (kk3.trans (kk4.trans (kk5.trans (kk6.trans (kk7.trans kk8)))))) (by decide)).mono ?_
  rintro e w9 ⟨rfl, hb9⟩
  have kk9 : Kp w8 w9 := Kp.of hb9
  clear hb9
  go_wp2
  go_ret
  exact ⟨rfl, (kk1.trans (kk2.trans (kk3.trans (kk4.trans (kk5.trans (kk6.trans (kk7.trans (kk8.trans kk9)))))))).bel⟩
end Go.Proofs.YtfgbbmjnjppfnaaDoor
