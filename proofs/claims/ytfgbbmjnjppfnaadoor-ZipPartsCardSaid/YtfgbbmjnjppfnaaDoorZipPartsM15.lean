/-
  hedgref.HeapTree: what it answers. Conditions: the list reads as l (RD), of fewer than 2^30 pairs.
  The plain law of heap.built: who stands next above, by the stack, is who stands next above in hedgref.HeapTree. No program. Conditions: none.
  heap.Check, heap.Of: what they answer. Conditions: the list reads as l (RD).
  Plain laws: the heap's tree of keys with their heights is the zipped tree. No program. Conditions: none.
  hedgref.SpotKeys: the keys of a list. Conditions: the list reads as l (RD) and of fewer than 2^43 spots.
-/
import Derived.Test.YtfgbbmjnjppfnaaDoorZipPartsM14
import Derived.Test.YtfgbbmjnjppfnaaDoorZipPartsM2
import Derived.Test.YtfgbbmjnjppfnaaDoorZipPartsM12
import Derived.Test.YtfgbbmjnjppfnaaDoorZipPartsM4
import Derived.Test.YtfgbbmjnjppfnaaDoorZipPartsM1

namespace Go.Proofs.YtfgbbmjnjppfnaaDoor
open Go.ChangeShapes Go.WideShapes Go.ChangeAt Go.RowKit
set_option linter.unusedVariables false
set_option linter.unusedSimpArgs false

/-- The place of the first pair with the greatest value, from a place and a best one on. -/
def amax (l : List IP) : Nat → Nat → Nat → Nat
  | 0, _, at_ => at_
  | n + 1, k, at_ => amax l n (k + 1) (if (l.getD at_ (0, 0)).2 < (l.getD k (0, 0)).2 then k else at_)
def top (l : List IP) : Nat := amax l l.length 0 0
theorem amax_lt (l : List IP) : ∀ n k a, a < l.length → k + n ≤ l.length → amax l n k a < l.length
  | 0, _, a, h, _ => h
  | n + 1, k, a, h, hk => by
    unfold amax
    split
    · exact amax_lt l n (k + 1) k (by omega) (by omega)
    · exact amax_lt l n (k + 1) a h (by omega)
theorem top_lt (l : List IP) (h : l ≠ []) : top l < l.length := amax_lt l l.length 0 0 (List.length_pos_iff.2 h) (by omega)
theorem amax_step (l : List IP) (k a : Nat) (h : k < l.length) (ha : a < l.length) : amax l (l.length - k) k a = amax l (l.length - (k + 1)) (k + 1) (if l[a].2 < l[k].2 then k else a) := by
  rw [show l.length - k = (l.length - (k + 1)) + 1 from by omega, amax]
  simp [List.getD_eq_getElem?_getD, List.getElem?_eq_getElem h, List.getElem?_eq_getElem ha]

def heapTree (l : List IP) : T :=
  if h : l = [] then .nil
  else
    have := top_lt l h
    .node (l[top l]'(top_lt l h)).1 (heapTree (l.take (top l))) (heapTree (l.drop (top l + 1)))
termination_by l.length
decreasing_by
  · simp; omega
  · simp; omega
theorem heapTree_nil : heapTree [] = .nil := by rw [heapTree]; simp
theorem heapTree_cons (l : List IP) (h : l ≠ []) : heapTree l = .node (l[top l]'(top_lt l h)).1 (heapTree (l.take (top l))) (heapTree (l.drop (top l + 1))) := by
  rw [heapTree, dif_neg h]
theorem heapTree_size (l : List IP) : (heapTree l).size = l.length := by
  by_cases h : l = []
  · subst h; rw [heapTree_nil]; rfl
  · have hl := top_lt l h
    rw [heapTree_cons l h, T.size, heapTree_size (l.take (top l)), heapTree_size (l.drop (top l + 1))]
    simp; omega
termination_by l.length
decreasing_by
  · simp; omega
  · simp; omega

def HRel (l : List IP) (w : World) (a i : Value) (wr : World) : Prop :=
  ∃ (k m : Nat), k ≤ l.length ∧ m < l.length ∧ i = .int .i64 k ∧ a = .int .i64 m ∧ amax l (l.length - k) k m = top l ∧ Kp w wr

set_option maxRecDepth 100000 in
set_option maxHeartbeats 1000000 in
theorem heapTree_any (n : Nat) : ∀ (l : List IP) (v : Value) (w : World), l.length ≤ n → n ≤ 1073741824 → RD w ePair v l → Calls Tryd.prog 41 #[v] w (RetTR (heapTree l) w) := by
  induction n with
  | zero =>
    intro l v w h0 hn hr
    have hl : l = [] := List.eq_nil_of_length_eq_zero (by omega)
    subst hl
    obtain ⟨A, c, rfl, hc, hm⟩ := hr.shape
    go_enter Tryd.func41, Tryd.ntmps41
    go_wp2
    go_ret
    exact ⟨_, rfl, by rw [heapTree_nil]; rfl, Below.refl _ _⟩
  | succ n ih =>
    intro l v w h0 hn hr
    have IH := hide ih
    clear ih
    obtain ⟨A, c, rfl, hc, hm⟩ := hr.shape
    by_cases hl : l.length = 0
    · have hl' : l = [] := List.eq_nil_of_length_eq_zero hl
      subst hl'
      go_enter Tryd.func41, Tryd.ntmps41
      go_wp2
      go_ret
      exact ⟨_, rfl, by rw [heapTree_nil]; rfl, Below.refl _ _⟩
    · have hne : l ≠ [] := by rintro rfl; exact hl rfl
      have hlb : ((l.length : Int) == 0) = false := by simp; omega
      have HR := hide hr
      clear hr
      have hpos : 0 < l.length := by omega
      have hl' := hide hl
      have hne' := hide hne
      clear hl hne
      go_enter Tryd.func41, Tryd.ntmps41
      go_wp2
      go_loopw [3, 11] (HRel l w) (fun a i wr => l.length - (intOf i).toNat)
      case atStart => exact ⟨0, 0, by omega, hpos, rfl, rfl, rfl, Kp.refl _⟩
      case round =>
        obtain ⟨k, m, hk, hml, rfl, rfl, htop, hkp⟩ := hrel
        have htop' := hide htop
        clear htop
        by_cases hlt : k < l.length
        · obtain ⟨b, o, rfl, hb, c0, c1⟩ := (HR.out.kp hkp).pair hlt
          obtain ⟨b2, o2, e2, hb2, d0, d1⟩ := (HR.out.kp hkp).pair hml
          injection e2 with e2
          injection e2 with e3 e4
          subst e3 e4
          have hst := amax_step l k m hlt hml
          by_cases hgt : l[m].2 < l[k].2
          · rw [if_pos hgt] at hst
            have hst' := hide hst
            clear hst
            go_wp2_with fail
            go_quiet (fail)
            go_wp2
            go_roundw
            case rel => exact ⟨k + 1, k, by omega, by omega, by go_num, rfl, by rw [← hst'.out, htop'.out], (by (focus ((repeat (first | (with_reducible assumption) | (with_reducible exact Kp.refl _) | (with_reducible apply Kp.drew) | (with_reducible apply Kp.drewN) | ((with_reducible apply Kp.setR); (focus (first | (with_reducible assumption) | (simp; done) | (simp; omega)))) | (with_reducible apply Kp.alloc) | ((with_reducible apply Kp.call); (with_reducible assumption)) | ((with_reducible apply Kp.app); (with_reducible assumption)))); done)))⟩
            case measure => simp [intOf]; omega
          · rw [if_neg hgt] at hst
            have hst' := hide hst
            clear hst
            go_wp2_with fail
            go_quiet (fail)
            go_wp2
            go_roundw
            case rel => exact ⟨k + 1, m, by omega, by omega, by go_num, rfl, by rw [← hst'.out, htop'.out], (by (focus ((repeat (first | (with_reducible assumption) | (with_reducible exact Kp.refl _) | (with_reducible apply Kp.drew) | (with_reducible apply Kp.drewN) | ((with_reducible apply Kp.setR); (focus (first | (with_reducible assumption) | (simp; done) | (simp; omega)))) | (with_reducible apply Kp.alloc) | ((with_reducible apply Kp.call); (with_reducible assumption)) | ((with_reducible apply Kp.app); (with_reducible assumption)))); done)))⟩
            case measure => simp [intOf]; omega
        · have hm' : m = top l := by
            have := htop'.out
            rwa [show l.length - k = 0 from by omega] at this
          have hm'' := hide hm'
          clear hm'
          obtain ⟨b, o, rfl, hb, c0, c1⟩ := (HR.out.kp hkp).pair hml
          have b1 : (m : Int) < (l.length : Int) := by omega
          have b2 : (m : Int) ≤ (c : Int) := by omega
          have b3 : (0 : Int) ≤ (m : Int) := by omega
          have b4 : (m : Int) + 1 ≤ (l.length : Int) := by omega
          have b5 : (0 : Int) ≤ (m : Int) + 1 := by omega
          have KS : Hid (∀ W', Kp wr W' → (W'.cell? ⟨b, o + m * 2, none⟩ = some (.int .i64 l[m].1) ∧ Kp wr W')) := hide fun W' h => ⟨h.cell c0, h⟩
          obtain ⟨A2, hif⟩ : ∃ A2, (if c = m + 1 then some (⟨b, o, none⟩ : Addr) else some ⟨b, o + (m + 1) * 2, none⟩) = A2 := ⟨_, rfl⟩
          have HC1 := hide (fun W (h : Kp wr W) => IH.out (l.take m) (.slice (some ⟨b, o, none⟩) m c) W (by simp; omega) (by omega) (((HR.out.kp hkp).kp h).takeS (by omega)))
          have HC2 := hide (fun W (h : Kp wr W) => IH.out (l.drop (m + 1)) (.slice A2 (l.length - (m + 1)) (c - (m + 1))) W (by simp; omega) (by omega) (((HR.out.kp hkp).kp h).dropS (by omega) rfl hif))
          have tn : ((m : Int) + 1).toNat = m + 1 := by omega
          have hw : IntKind.i64.wrap ((m : Int) + 1) = (m : Int) + 1 := IntWalk.i64_in _ (by omega)
          have K0 := Kp.refl wr
          go_wp2_with fail
          go_region_held3 (fun w' => w'.cell? ⟨b, o + m * 2, none⟩ = some (.int .i64 l[m].1) ∧ Kp wr w')
            ((go_split_ands; refine KS.out _ ?_; (focus ((repeat (first | (with_reducible assumption) | (with_reducible exact Kp.refl _) | (with_reducible apply Kp.drew) | (with_reducible apply Kp.drewN) | ((with_reducible apply Kp.setR); (focus (first | (with_reducible assumption) | (simp; done) | (simp; omega)))) | (with_reducible apply Kp.alloc) | ((with_reducible apply Kp.call); (with_reducible assumption)) | ((with_reducible apply Kp.app); (with_reducible assumption)))); done))))
            (first
              | (go_at_call 41; (with_reducible refine (HC1.out _ ?_).mono ?_); (go_split_ands; (focus ((repeat (first | (with_reducible assumption) | (with_reducible exact Kp.refl _) | (with_reducible apply Kp.drew) | (with_reducible apply Kp.drewN) | ((with_reducible apply Kp.setR); (focus (first | (with_reducible assumption) | (simp; done) | (simp; omega)))) | (with_reducible apply Kp.alloc) | ((with_reducible apply Kp.call); (with_reducible assumption)) | ((with_reducible apply Kp.app); (with_reducible assumption)))); done))); rintro e w1 ⟨v1, rfl, ht1, hb1⟩)
              | (go_at_call 41; (with_reducible refine (HC2.out _ ?_).mono ?_); (go_split_ands; (focus ((repeat (first | (with_reducible assumption) | (with_reducible exact Kp.refl _) | (with_reducible apply Kp.drew) | (with_reducible apply Kp.drewN) | ((with_reducible apply Kp.setR); (focus (first | (with_reducible assumption) | (simp; done) | (simp; omega)))) | (with_reducible apply Kp.alloc) | ((with_reducible apply Kp.call); (with_reducible assumption)) | ((with_reducible apply Kp.app); (with_reducible assumption)))); done))); rintro e w2 ⟨v2, rfl, ht2, hb2⟩))
          all_goals
            go_wp2
            go_ret
            refine ⟨some ⟨w2.heap.size, 0, none⟩, rfl, ?_, (hkp.trans (by go_split_ands; (focus ((repeat (first | (with_reducible assumption) | (with_reducible exact Kp.refl _) | (with_reducible apply Kp.drew) | (with_reducible apply Kp.drewN) | ((with_reducible apply Kp.setR); (focus (first | (with_reducible assumption) | (simp; done) | (simp; omega)))) | (with_reducible apply Kp.alloc) | ((with_reducible apply Kp.call); (with_reducible assumption)) | ((with_reducible apply Kp.app); (with_reducible assumption)))); done)))).bel⟩
            rw [heapTree_cons l hne'.out]
            have e := hm''.out
            subst e
            exact TR.mk (ht1.below hb2) ht2 _
end Go.Proofs.YtfgbbmjnjppfnaaDoor
namespace Go.Proofs.YtfgbbmjnjppfnaaDoor
open Go.ChangeShapes Go.WideShapes Go.ChangeAt Go.RowKit
set_option linter.unusedVariables false
set_option linter.unusedSimpArgs false

def PT.spine : PT → List Nat
  | .nil => []
  | .node p l r => r.spine ++ [p]
/-- No one below ranks higher. -/
def PT.ord (v : Nat → Int) : PT → Prop
  | .nil => True
  | .node p l r => l.ord v ∧ r.ord v ∧ (∀ q ∈ r.spine, v q ≤ v p)
def PT.ins (v : Nat → Int) (n : Nat) : PT → PT
  | .nil => .node n .nil .nil
  | .node p l r => if v p < v n then .node n (.node p l r) .nil else .node p l (r.ins v n)
theorem PT.ins_size (v : Nat → Int) (n : Nat) : ∀ t : PT, (t.ins v n).size = t.size + 1
  | .nil => rfl
  | .node p l r => by
    unfold ins
    split
    · simp [size]
    · simp [size, ins_size v n r]; omega

/-- popL by a value function. -/
def popV (v : Nat → Int) (x : Int) : List Nat → Int → List Nat × Int
  | [], last => ([], last)
  | t :: es, last => if v t < x then popV v x es t else (t :: es, last)
theorem popL_popV (l : List IP) (x : Int) : ∀ (st : List Nat) (last : Int), popL l x st last = popV (gv l) x st last
  | [], _ => rfl
  | t :: es, last => by unfold popL popV; split <;> simp [popL_popV l x es]
theorem popV_all (v : Nat → Int) (x : Int) : ∀ (s rest : List Nat) (last : Int), (∀ q ∈ s, v q < x) → popV v x (s ++ rest) last = popV v x rest (match s.getLast? with | some t => (t : Int) | none => last)
  | [], rest, last, _ => by simp
  | a :: s, rest, last, h => by
    rw [List.cons_append, popV, if_pos (h a (by simp)), popV_all v x s rest a (fun q hq => h q (by simp [hq]))]
    congr 1
    cases s with
    | nil => simp
    | cons b s =>
      rw [List.getLast?_cons_cons]
      cases h : (b :: s).getLast? with
      | none => simp at h
      | some t => rfl
theorem popV_stop (v : Nat → Int) (x : Int) (rest : List Nat) (last : Int) (h : ∀ t es, rest = t :: es → ¬ v t < x) : popV v x rest last = (rest, last) := by
  cases rest with
  | nil => rfl
  | cons t es => rw [popV, if_neg (h t es rfl)]

/-- What the step does to the list of those above: at the new place hd of what is left; of the last one popped: the new place. -/
def fix (L : List Int) (off n : Nat) (up last : Int) : List Int := if 0 ≤ last then (L ++ [up]).set (last.toNat - off) n else L ++ [up]

theorem ins_step (v : Nat → Int) (n : Nat) : ∀ (t : PT) (off : Nat) (rest : List Nat), t.ord v → t.At off → n = off + t.size → (∀ q es, rest = q :: es → ¬ v q < v n) →
    ∃ st last, popV v (v n) (t.spine ++ rest) (-1) = (st, last) ∧ (t.ins v n).spine ++ rest = n :: st ∧ (t.ins v n).At off ∧ (t.ins v n).pars (hd rest) = fix (t.pars (hd rest)) off n (hd st) last ∧ (0 ≤ last → off ≤ last.toNat ∧ last.toNat < n)
  | .nil, off, rest, ho, ha, hn, hr => by
    refine ⟨rest, -1, ?_, by simp [PT.ins, PT.spine], ?_, ?_, by omega⟩
    · simp only [PT.spine, List.nil_append]; exact popV_stop v _ rest _ hr
    · simp [PT.ins, PT.At, PT.size] at *; omega
    · simp [PT.ins, PT.pars, fix]
  | .node p l r, off, rest, ⟨hl, hr', hs⟩, ⟨hp, hal, har⟩, hn, hr => by
    by_cases hlt : v p < v n
    · have hall : ∀ q ∈ (PT.node p l r).spine, v q < v n := by
        intro q hq
        simp only [PT.spine, List.mem_append, List.mem_singleton] at hq
        rcases hq with hq | rfl
        · have := hs q hq; omega
        · exact hlt
      have hpop := popV_all v (v n) (PT.node p l r).spine rest (-1) hall
      have hlast : (match (PT.node p l r).spine.getLast? with | some t => (t : Int) | none => -1) = (p : Int) := by simp [PT.spine]
      rw [hlast, popV_stop v _ rest _ hr] at hpop
      refine ⟨rest, p, hpop, by simp [PT.ins, hlt, PT.spine], ?_, ?_, ?_⟩
      · simp only [PT.ins, if_pos hlt, PT.At, PT.size] at *
        exact ⟨hn, ⟨hp, hal, har⟩, trivial⟩
      · simp only [PT.ins, if_pos hlt, PT.pars, fix, if_pos (Int.natCast_nonneg p), Int.toNat_natCast, List.append_nil]
        have hpl : (l.pars (p : Int)).length = p - off := by rw [PT.pars_len]; omega
        have e : l.pars (p : Int) ++ [hd rest] ++ r.pars (p : Int) ++ [hd rest] = l.pars (p : Int) ++ (hd rest :: (r.pars (p : Int) ++ [hd rest])) := by simp
        rw [e, List.set_append_right _ _ (by omega), hpl, Nat.sub_self, List.set_cons_zero]
        simp
      · intro _
        simp only [Int.toNat_natCast, PT.size] at *
        omega
    · have hn' : n = p + 1 + r.size := by simp only [PT.size] at hn; omega
      obtain ⟨st, last, h1, h2, h3, h4, h5⟩ := ins_step v n r (p + 1) (p :: rest) hr' har hn' (fun q es e => by injection e with e1 _; subst e1; exact hlt)
      refine ⟨st, last, ?_, ?_, ?_, ?_, fun h => ⟨by have := h5 h; omega, (h5 h).2⟩⟩
      · simpa [PT.spine] using h1
      · simpa [PT.ins, hlt, PT.spine] using h2
      · simp only [PT.ins, if_neg hlt, PT.At]
        exact ⟨hp, hal, h3⟩
      · simp only [PT.ins, if_neg hlt, PT.pars]
        have h4' : (r.ins v n).pars (p : Int) = fix (r.pars (p : Int)) (p + 1) n (hd st) last := h4
        rw [h4']
        unfold fix
        split
        · rename_i h0
          obtain ⟨h6, h7⟩ := h5 h0
          have hpl : (l.pars (p : Int) ++ [hd rest]).length = p + 1 - off := by rw [List.length_append, PT.pars_len]; simp; omega
          have e : l.pars (p : Int) ++ [hd rest] ++ r.pars (p : Int) ++ [hd st] = (l.pars (p : Int) ++ [hd rest]) ++ (r.pars (p : Int) ++ [hd st]) := by simp
          have e3 : ((l.pars (p : Int) ++ [hd rest]) ++ (r.pars (p : Int) ++ [hd st])).set (last.toNat - off) (n : Int) = (l.pars (p : Int) ++ [hd rest]) ++ (r.pars (p : Int) ++ [hd st]).set (last.toNat - (p + 1)) (n : Int) := by
            rw [List.set_append_right _ _ (by omega), hpl]
            congr 2
            omega
          rw [e, e3]
        · simp

/-! The tree of places of a list. -/
theorem amax_last (l : List IP) : ∀ m k a, amax l (m + 1) k a = (if (l.getD (amax l m k a) (0, 0)).2 < (l.getD (k + m) (0, 0)).2 then k + m else amax l m k a)
  | 0, k, a => by simp [amax]
  | m + 1, k, a => by
    rw [amax, amax_last l m (k + 1), show k + 1 + m = k + (m + 1) from by omega]
    rfl
theorem amax_append (l : List IP) (x : IP) : ∀ m k a, k + m ≤ l.length → a < l.length → amax (l ++ [x]) m k a = amax l m k a
  | 0, _, _, _, _ => rfl
  | m + 1, k, a, h, ha => by
    have e1 : (l ++ [x]).getD a (0, 0) = l.getD a (0, 0) := by simp [List.getD_eq_getElem?_getD, List.getElem?_append_left ha]
    have e2 : (l ++ [x]).getD k (0, 0) = l.getD k (0, 0) := by simp [List.getD_eq_getElem?_getD, List.getElem?_append_left (show k < l.length by omega)]
    rw [amax, amax, e1, e2]
    split
    · exact amax_append l x m (k + 1) k (by omega) (by omega)
    · exact amax_append l x m (k + 1) a (by omega) ha
theorem top_snoc (l : List IP) (x : IP) (h : l ≠ []) : top (l ++ [x]) = if (l[top l]'(top_lt l h)).2 < x.2 then l.length else top l := by
  have h0 := List.length_pos_iff.2 h
  have ht := top_lt l h
  unfold top at ht ⊢
  rw [List.length_append, List.length_singleton, amax_last, amax_append l x _ _ _ (by omega) h0]
  have e1 : (l ++ [x]).getD (amax l l.length 0 0) (0, 0) = l[amax l l.length 0 0] := by simp [List.getD_eq_getElem?_getD, List.getElem?_append_left ht, List.getElem?_eq_getElem ht]
  have e2 : (l ++ [x]).getD (0 + l.length) (0, 0) = x := by simp [List.getD_eq_getElem?_getD]
  rw [e1, e2, Nat.zero_add]
  rfl
theorem amax_ge (l : List IP) : ∀ m k a, k + m ≤ l.length → a < l.length → (∀ j, j < k → (l.getD j (0, 0)).2 ≤ (l.getD a (0, 0)).2) → ∀ j, j < k + m → (l.getD j (0, 0)).2 ≤ (l.getD (amax l m k a) (0, 0)).2
  | 0, k, a, _, _, h, j, hj => h j hj
  | m + 1, k, a, hk, ha, h, j, hj => by
    rw [amax]
    split
    · rename_i hlt
      exact amax_ge l m (k + 1) k (by omega) (by omega) (fun i hi => by
        rcases Nat.lt_or_ge i k with h1 | h1
        · have := h i h1; omega
        · obtain rfl : i = k := by omega
          omega) j (by omega)
    · rename_i hlt
      exact amax_ge l m (k + 1) a (by omega) ha (fun i hi => by
        rcases Nat.lt_or_ge i k with h1 | h1
        · exact h i h1
        · obtain rfl : i = k := by omega
          omega) j (by omega)
theorem top_ge (l : List IP) (h : l ≠ []) (j : Nat) (hj : j < l.length) : l[j].2 ≤ (l[top l]'(top_lt l h)).2 := by
  have := amax_ge l l.length 0 0 (by omega) (List.length_pos_iff.2 h) (fun j hj => by omega) j (by omega)
  have ht := top_lt l h
  unfold top at ht ⊢
  simp only [List.getD_eq_getElem?_getD, List.getElem?_eq_getElem hj, List.getElem?_eq_getElem ht, Option.getD_some] at this
  exact this

def ptree (l : List IP) (off : Nat) : PT :=
  if h : l = [] then .nil
  else
    have := top_lt l h
    .node (off + top l) (ptree (l.take (top l)) off) (ptree (l.drop (top l + 1)) (off + top l + 1))
termination_by l.length
decreasing_by
  · simp; omega
  · simp; omega
theorem ptree_nil (off : Nat) : ptree [] off = .nil := by rw [ptree]; simp
theorem ptree_cons (l : List IP) (off : Nat) (h : l ≠ []) : ptree l off = .node (off + top l) (ptree (l.take (top l)) off) (ptree (l.drop (top l + 1)) (off + top l + 1)) := by
  rw [ptree, dif_neg h]
theorem ptree_size (l : List IP) (off : Nat) : (ptree l off).size = l.length := by
  by_cases h : l = []
  · subst h; rw [ptree_nil]; rfl
  · have hl := top_lt l h
    rw [ptree_cons l off h, PT.size, ptree_size (l.take (top l)), ptree_size (l.drop (top l + 1))]
    simp; omega
termination_by l.length
decreasing_by
  · simp; omega
  · simp; omega
theorem ptree_at (l : List IP) (off : Nat) : (ptree l off).At off := by
  by_cases h : l = []
  · subst h; rw [ptree_nil]; trivial
  · have hl := top_lt l h
    rw [ptree_cons l off h]
    refine ⟨?_, ptree_at _ _, ptree_at _ _⟩
    rw [ptree_size]; simp; omega
termination_by l.length
decreasing_by
  · simp; omega
  · simp; omega
theorem PT.spine_in : ∀ (t : PT) (off : Nat), t.At off → ∀ q ∈ t.spine, off ≤ q ∧ q < off + t.size
  | .nil, _, _, q, hq => by simp [spine] at hq
  | .node p l r, off, ⟨h1, h2, h3⟩, q, hq => by
    simp only [spine, List.mem_append, List.mem_singleton] at hq
    simp only [size]
    rcases hq with hq | rfl
    · have := spine_in r (p + 1) h3 q hq; omega
    · omega
theorem ptree_ord (v : Nat → Int) (l : List IP) (off : Nat) (hv : ∀ i (h : i < l.length), v (off + i) = l[i].2) : (ptree l off).ord v := by
  by_cases h : l = []
  · subst h; rw [ptree_nil]; trivial
  · have hl := top_lt l h
    rw [ptree_cons l off h]
    refine ⟨ptree_ord v _ _ fun i hi => ?_, ptree_ord v _ _ fun i hi => ?_, fun q hq => ?_⟩
    · simp at hi
      rw [hv i (by omega)]; simp
    · simp at hi
      rw [show off + top l + 1 + i = off + (top l + 1 + i) from by omega, hv _ (by omega)]; simp
    · obtain ⟨h1, h2⟩ := PT.spine_in _ _ (ptree_at _ _) q hq
      rw [ptree_size] at h2
      simp at h2
      obtain ⟨i, rfl⟩ : ∃ i, q = off + i := ⟨q - off, by omega⟩
      rw [hv i (by omega), hv _ hl]
      exact top_ge l h i (by omega)
termination_by l.length
decreasing_by
  · simp; omega
  · simp; omega
theorem ptree_snoc (v : Nat → Int) (n : Nat) (x : IP) (hx : v n = x.2) (l : List IP) (off : Nat) (hn : n = off + l.length) (hv : ∀ i (h : i < l.length), v (off + i) = l[i].2) : ptree (l ++ [x]) off = (ptree l off).ins v n := by
  by_cases h : l = []
  · subst h
    rw [ptree_nil, List.nil_append, ptree_cons _ _ (by simp)]
    have ht : top [x] = 0 := by simp [top, amax]
    rw [ht]
    simp [ptree_nil, PT.ins, hn]
  · have hl := top_lt l h
    have hts := top_snoc l x h
    rw [ptree_cons l off h, ptree_cons (l ++ [x]) off (by simp), PT.ins, hv _ hl, hx]
    by_cases hlt : (l[top l]'hl).2 < x.2
    · rw [if_pos hlt] at hts
      rw [if_pos hlt, hts, ← hn]
      have e1 : (l ++ [x]).take l.length = l := by simp
      have e2 : (l ++ [x]).drop (l.length + 1) = [] := by simp
      rw [e1, e2, ptree_nil, ← ptree_cons l off h]
    · rw [if_neg hlt] at hts
      rw [if_neg hlt, hts]
      have e1 : (l ++ [x]).take (top l) = l.take (top l) := by rw [List.take_append_of_le_length (by omega)]
      have e2 : (l ++ [x]).drop (top l + 1) = l.drop (top l + 1) ++ [x] := by rw [List.drop_append_of_le_length (by omega)]
      rw [e1, e2]
      congr 1
      refine ptree_snoc v n x hx _ _ (by simp; omega) fun i hi => ?_
      simp at hi
      rw [show off + top l + 1 + i = off + (top l + 1 + i) from by omega, hv _ (by omega)]; simp
termination_by l.length
decreasing_by
  simp; omega

/-- The run of heap.built, in words of the tree of places. -/
theorem bRun_tree (l : List IP) : ∀ k, k ≤ l.length → (bRun l k).1 = (ptree (l.take k) 0).spine ∧ (bRun l k).2 = (ptree (l.take k) 0).pars (-1) ++ List.replicate (l.length - k) 0
  | 0, _ => by simp [bRun, ptree_nil, PT.spine, PT.pars]
  | k + 1, hk => by
    obtain ⟨h1, h2⟩ := bRun_tree l k (by omega)
    have hlk : (l.take k).length = k := by simp; omega
    have hv : ∀ i (h : i < (l.take k).length), gv l (0 + i) = (l.take k)[i].2 := fun i h => by
      rw [Nat.zero_add, gv_eq l i (by omega)]; simp
    have hsn := ptree_snoc (gv l) k (l[k]'(by omega)) (gv_eq l k (by omega)) (l.take k) 0 (by omega) hv
    rw [← List.take_succ_eq_append_getElem (by omega)] at hsn
    obtain ⟨st, last, h3, h4, h5, h6, h7⟩ := ins_step (gv l) k (ptree (l.take k) 0) 0 [] (ptree_ord _ _ _ hv) (ptree_at _ _) (by rw [ptree_size]; omega) (fun q es e => by cases e)
    rw [List.append_nil] at h3 h4
    have hpop : popL l (gv l k) (bRun l k).1 (-1) = (st, last) := by rw [popL_popV, h1]; exact h3
    have hst : bRun l (k + 1) = (k :: st, upTo (bRun l k).2 k (st, last)) := by
      show bStep l (bRun l k) k = _
      simp only [bStep, hpop]
    rw [hst, hsn]
    refine ⟨h4.symm, ?_⟩
    have h6' : ((ptree (l.take k) 0).ins (gv l) k).pars (-1) = fix ((ptree (l.take k) 0).pars (-1)) 0 k (hd st) last := h6
    rw [h6', h2]
    have hpl : ((ptree (l.take k) 0).pars (-1)).length = k := by rw [PT.pars_len, ptree_size, hlk]
    have e1 : ((ptree (l.take k) 0).pars (-1) ++ List.replicate (l.length - k) 0).set k (hd st) = ((ptree (l.take k) 0).pars (-1) ++ [hd st]) ++ List.replicate (l.length - (k + 1)) 0 := by
      rw [List.set_append_right _ _ (by omega), hpl, Nat.sub_self, show l.length - k = (l.length - (k + 1)) + 1 from by omega, List.replicate_succ]
      simp
    unfold upTo fix
    simp only
    split
    · rename_i h0
      rw [e1, List.set_append_left _ _ (by rw [List.length_append, hpl]; have := (h7 h0).2; simp; omega), Nat.sub_zero]
    · exact e1
theorem builtL_eq (l : List IP) : builtL l = (ptree l 0).pars (-1) := by
  have := (bRun_tree l l.length (Nat.le_refl _)).2
  simpa [builtL] using this

theorem dp_of (up : List Int) : ∀ (t : PT) (off : Nat) (p d : Int), t.At off → Dp up p (d - 1) → off + t.size ≤ up.length → (∀ i, i < t.size → up[off + i]? = (t.pars p)[i]?) →
    ∀ i (h : i < t.size), Dp up ((off + i : Nat) : Int) ((t.deps d)[i]'(by rw [PT.deps_len]; exact h))
  | .nil, _, _, _, _, _, _, _, i, h => by simp [PT.size] at h
  | .node q l r, off, p, d, ⟨hq, hl, hr⟩, hp, hsz, hup, i, h => by
    simp only [PT.size] at hsz h hup
    have hll := PT.pars_len l (q : Int)
    have hdl := PT.deps_len l (d + 1)
    have hroot : Dp up (q : Int) d := by
      have h1 := hup l.size (by omega)
      simp only [PT.pars, List.append_assoc] at h1
      rw [List.getElem?_append_right (by omega), hll, Nat.sub_self] at h1
      simp only [List.singleton_append, List.getElem?_cons_zero] at h1
      rw [← hq] at h1
      have hlt : q < up.length := by omega
      have h2 : up[q] = p := by rw [List.getElem?_eq_getElem hlt] at h1; exact Option.some.inj h1
      have := Dp.step (up := up) q (d - 1) hlt (by rw [h2]; exact hp)
      rwa [Int.sub_add_cancel] at this
    have hroot' : Dp up (q : Int) (d + 1 - 1) := by rwa [Int.add_sub_cancel]
    rcases Nat.lt_trichotomy i l.size with hi | hi | hi
    · have h1 := dp_of up l off q (d + 1) hl hroot' (by omega) (fun j hj => by
        rw [hup j (by omega)]
        simp only [PT.pars, List.append_assoc]
        rw [List.getElem?_append_left (by omega)]) i hi
      have e : ((PT.node q l r).deps d)[i]'(by rw [PT.deps_len]; simpa [PT.size] using h) = (l.deps (d + 1))[i]'(by omega) := by
        simp only [PT.deps, List.append_assoc]
        rw [List.getElem_append_left (by omega)]
      rw [e]; exact h1
    · subst hi
      have e : ((PT.node q l r).deps d)[l.size]'(by rw [PT.deps_len]; simpa [PT.size] using h) = d := by
        simp only [PT.deps, List.append_assoc]
        rw [List.getElem_append_right (by omega)]
        simp [hdl]
      rw [e, ← hq]; exact hroot
    · have h1 := dp_of up r (q + 1) q (d + 1) hr hroot' (by omega) (fun j hj => by
        have h2 := hup (l.size + 1 + j) (by omega)
        simp only [PT.pars] at h2
        rw [List.getElem?_append_right (by simp; omega)] at h2
        rw [show off + (l.size + 1 + j) = q + 1 + j from by omega] at h2
        rw [h2]
        congr 1
        simp [hll]) (i - (l.size + 1)) (by omega)
      have e : ((PT.node q l r).deps d)[i]'(by rw [PT.deps_len]; simpa [PT.size] using h) = (r.deps (d + 1))[i - (l.size + 1)]'(by rw [PT.deps_len]; omega) := by
        simp only [PT.deps]
        rw [List.getElem_append_right (by simp [hdl]; omega)]
        congr 1
        simp [hdl]
      rw [e]
      have e2 : ((q + 1 + (i - (l.size + 1)) : Nat) : Int) = ((off + i : Nat) : Int) := by omega
      rwa [e2] at h1
end Go.Proofs.YtfgbbmjnjppfnaaDoor
namespace Go.Proofs.YtfgbbmjnjppfnaaDoor
open Go.ChangeShapes Go.WideShapes Go.ChangeAt Go.RowKit
set_option linter.unusedVariables false
set_option linter.unusedSimpArgs false

theorem heap_zip (l : List IP) (off : Nat) (d : Int) : (heapTree l).spots d = List.zipWith (fun (p : IP) (e : Int) => ((p.1, e) : IP)) l ((ptree l off).deps d) := by
  by_cases h : l = []
  · subst h; rw [heapTree_nil, ptree_nil]; rfl
  · have hl := top_lt l h
    rw [heapTree_cons l h, ptree_cons l off h, T.spots, PT.deps, heap_zip (l.take (top l)) off (d + 1), heap_zip (l.drop (top l + 1)) (off + top l + 1) (d + 1)]
    have e : l = l.take (top l) ++ ([l[top l]] ++ l.drop (top l + 1)) := by simp
    conv => rhs; arg 2; rw [e]
    rw [List.append_assoc, List.append_assoc, List.zipWith_append (by rw [PT.deps_len, ptree_size]), List.zipWith_append (by rfl)]
    rfl
termination_by l.length
decreasing_by
  · simp; omega
  · simp; omega
theorem PT.deps_le : ∀ (t : PT) (d : Int), ∀ e ∈ t.deps d, e < d + t.size
  | .nil, _, e, h => by simp [deps] at h
  | .node p l r, d, e, h => by
    simp only [deps, List.mem_append, List.mem_singleton] at h
    simp only [size]
    rcases h with (h | rfl) | h
    · have := deps_le l (d + 1) e h; omega
    · omega
    · have := deps_le r (d + 1) e h; omega
def hD (l : List IP) (k : Nat) : Int := ((ptree l 0).deps 0).getD k 0
theorem hD_ok (l : List IP) (hn : l.length ≤ 1000) (k : Nat) (hk : k < l.length) : Dp (builtL l) (k : Int) (hD l k) ∧ hD l k ≤ 1000000 := by
  have hs : k < (ptree l 0).size := by rw [ptree_size]; exact hk
  have hdl : k < ((ptree l 0).deps 0).length := by rw [PT.deps_len]; exact hs
  have e : hD l k = ((ptree l 0).deps 0)[k] := by simp [hD, List.getD_eq_getElem?_getD, List.getElem?_eq_getElem hdl]
  constructor
  · have h := dp_of (builtL l) (ptree l 0) 0 (-1) 0 (ptree_at l 0) (Dp.base _ (by omega)) (by rw [builtL_eq, PT.pars_len]; omega) (fun i hi => by rw [builtL_eq, Nat.zero_add]) k hs
    rw [Nat.zero_add] at h
    rw [e]; exact h
  · have := PT.deps_le (ptree l 0) 0 _ (List.getElem_mem hdl)
    rw [ptree_size] at this
    rw [e]; omega
theorem dl_eq (l : List IP) : dl l (hD l) = (heapTree l).spots 0 := by
  rw [heap_zip l 0 0]
  have hdl : ((ptree l 0).deps 0).length = l.length := by rw [PT.deps_len, ptree_size]
  apply List.ext_getElem
  · simp [dl_len, hdl]
  · intro k h1 h2
    rw [dl_len] at h1
    rw [dl_at l _ k h1, List.getElem_zipWith]
    simp [hD, List.getD_eq_getElem?_getD, List.getElem?_eq_getElem (show k < ((ptree l 0).deps 0).length by omega)]

def heapOf (l : List IP) : List IP × Int := if mapRight l = 0 then ((heapTree l).spots 0, 0) else ([], mapRight l)

theorem hcheck_any (l : List IP) (v : Value) (w : World) (hr : RD w ePair v l) : Calls Tryd.prog 50 #[v] w (Ret (.int .i64 (mapRight l)) w) := by
  have HR := hide hr
  clear hr
  go_enter Tryd.func50, Tryd.ntmps50
  go_wp2_with (go_at_call 70; refine (check_any l _ _ HR.out).mono ?_; rintro e w' ⟨rfl, hb⟩)
  go_ret
  exact ⟨rfl, hb⟩
set_option maxHeartbeats 1000000 in
theorem heapOf_any (l : List IP) (v : Value) (w : World) (hr : RD w ePair v l) : Calls Tryd.prog 29 #[v] w (Ret2 ePair (heapOf l) w) := by
  have HR := hide hr
  clear hr
  by_cases h0 : mapRight l = 0
  · have hlen := mapRight_len l h0
    have hres : Hid (heapOf l = ((heapTree l).spots 0, 0)) := hide (by rw [heapOf, if_pos h0])
    have hb0 : (mapRight l != 0) = false := by simp [h0]
    have H0 := hide h0
    clear h0
    go_enter Tryd.func29, Tryd.ntmps29
    go_wp2_with (go_at_call 50; refine (hcheck_any l _ _ HR.out).mono ?_; rintro e w1 ⟨rfl, hb1⟩)
    refine (built_any l _ _ (HR.out.below hb1) (by omega)).mono ?_
    rintro e w2 ⟨g, rfl, hg, ha, hb2⟩
    have hbl : (builtL l).length = l.length := bRun_len l _
    have HA := hide ha
    have HBL := hide hbl
    clear ha hbl
    go_wp2_with fail
    refine (hspots_any l (builtL l) (hD l) _ _ _ ((HR.out.below hb1).below hb2) (HA.out.rd (by rw [HBL.out]; unfold maxLen; omega)) (by omega) HBL.out (fun k hk => hD_ok l (by omega) k hk)).mono ?_
    rintro e w3 ⟨g3, rfl, hg3, ha3, hb3⟩
    have HA3 := hide ha3
    clear ha3
    go_wp2
    go_ret2
    refine ⟨_, by rw [hres.out]; rfl, ?_, (Kp.trans hb1 (Kp.trans hb2 hb3)).bel⟩
    rw [hres.out, ← dl_eq]
    exact HA3.out.rd (by rw [dl_len]; unfold maxLen; omega)
  · have hb0 : (mapRight l != 0) = true := by simp [h0]
    have hres : Hid (heapOf l = ([], mapRight l)) := hide (by rw [heapOf, if_neg h0])
    clear h0
    go_enter Tryd.func29, Tryd.ntmps29
    go_wp2_with (go_at_call 50; refine (hcheck_any l _ _ HR.out).mono ?_; rintro e w1 ⟨rfl, hb1⟩)
    go_ret2
    exact ⟨_, by rw [hres.out]; rfl, by rw [hres.out]; exact RD.nil, hb1⟩
end Go.Proofs.YtfgbbmjnjppfnaaDoor
namespace Go.Proofs.YtfgbbmjnjppfnaaDoor
open Go.ChangeShapes Go.WideShapes Go.ChangeAt Go.RowKit
set_option linter.unusedVariables false
set_option linter.unusedSimpArgs false

def skZ : MT IP → T
  | .nil => .nil
  | .node a l r => .node a.1 (skZ l) (skZ r)
theorem skZ_spots : ∀ (t : MT IP) (d : Int), (skZ t).spots d = t.spotsBy Prod.fst d
  | .nil, _ => rfl
  | .node a l r, d => by simp [skZ, T.spots, MT.spotsBy, skZ_spots l, skZ_spots r]
/-- Ahead of the first of the greatest all are less. -/
theorem amax_first (l : List IP) : ∀ m, m ≤ l.length → 0 < l.length → amax l m 0 0 < max 1 m ∧ ∀ j, j < amax l m 0 0 → (l.getD j (0, 0)).2 < (l.getD (amax l m 0 0) (0, 0)).2 := by
  intro m
  induction m with
  | zero => intro _ _; simp [amax]
  | succ m ih =>
    intro h1 h2
    obtain ⟨i1, i2⟩ := ih (by omega) h2
    have hg := amax_ge l m 0 0 (by omega) h2 (fun j hj => by omega)
    rw [amax_last, Nat.zero_add]
    split
    · next hlt =>
      refine ⟨by omega, fun j hj => ?_⟩
      have := hg j (by omega)
      omega
    · exact ⟨by omega, i2⟩
theorem top_first (l : List IP) (h : l ≠ []) (j : Nat) (hj : j < top l) : (l[j]'(Nat.lt_trans hj (top_lt l h))).2 < (l[top l]'(top_lt l h)).2 := by
  have hl := top_lt l h
  have h0 : 0 < l.length := by omega
  have := (amax_first l l.length (Nat.le_refl _) h0).2 j hj
  simpa [top, List.getD_eq_getElem?_getD, List.getElem?_eq_getElem (show j < l.length by omega), List.getElem?_eq_getElem (show amax l l.length 0 0 < l.length from hl)] using this
theorem heapTree_nd : ∀ t : MT IP, Hp t → UpN (nd t) → heapTree (nd t) = skZ t
  | .nil, _, _ => by rw [nd, heapTree_nil]; rfl
  | .node a l r, ⟨p1, p2, p3, p4⟩, hu => by
    obtain ⟨u1, u2, u3, u4, _⟩ := upN_node hu
    have hne : nd (.node a l r) ≠ [] := by simp [nd]
    have hlen : (nd (.node a l r)).length = (nd l).length + 1 + (nd r).length := by simp [nd]; omega
    have hat : ∀ h : (nd l).length < (nd (.node a l r)).length, (nd (.node a l r))[(nd l).length]'h = a := fun h => by simp [nd]
    have hxl : ∀ j (h : j < (nd (.node a l r)).length) (h1 : j < (nd l).length), (nd (.node a l r))[j] = (nd l)[j] := fun j h h1 => by simp only [nd]; rw [List.getElem_append_left h1]
    have hxr : ∀ j (h : j < (nd (.node a l r)).length), (nd l).length < j → (nd (.node a l r))[j] ∈ nd r := fun j h h1 => by
      have e : (nd (.node a l r))[j] = (nd r)[j - ((nd l).length + 1)]'(by omega) := by
        simp only [nd]
        rw [List.getElem_append_right (by omega), List.getElem_cons, dif_neg (by omega)]
        congr 1
      rw [e]; exact List.getElem_mem _
    have htl := top_lt _ hne
    have hn : (nd l).length < (nd (.node a l r)).length := by omega
    have htop : top (nd (.node a l r)) = (nd l).length := by
      have g1 := top_ge _ hne _ hn
      rw [hat hn] at g1
      rcases Nat.lt_trichotomy (top (nd (.node a l r))) (nd l).length with h1 | h1 | h1
      · exfalso
        have hx := hxl _ htl h1
        have ho := p1 _ (List.getElem_mem h1)
        have hk := u3 _ (List.getElem_mem h1)
        rw [ov_iff] at ho
        rw [hx] at g1
        omega
      · exact h1
      · exfalso
        have g2 := top_first _ hne _ h1
        rw [hat hn] at g2
        have hx := hxr _ htl h1
        have ho := p2 _ hx
        rw [ov_iff] at ho
        omega
    rw [heapTree_cons _ hne]
    have e1 : (nd (.node a l r)).take (nd l).length = nd l := by simp [nd]
    have e2 : (nd (.node a l r)).drop ((nd l).length + 1) = nd r := by
      rw [nd, show nd l ++ a :: nd r = (nd l ++ [a]) ++ nd r by simp]
      exact List.drop_left' (by simp)
    have e3 : (nd (.node a l r))[top (nd (.node a l r))] = a := by
      have := hat hn
      simp only [htop]
      exact this
    rw [e3, htop, e1, e2, heapTree_nd l p3 u1, heapTree_nd r p4 u2]
    rfl
theorem keysM_nd : ∀ t : MT IP, keysM Prod.fst t = (nd t).map Prod.fst
  | .nil => rfl
  | .node a l r => by simp [keysM, nd, keysM_nd l, keysM_nd r]
/-- What ops leave: the spots; the heap's tree of the keys and heights is the same. -/
theorem zip_heap (ops : List O3) : heapOf (((zrT (opsA ops)).spotsBy Prod.fst 0).map fun x => (x.1, hgtF x.1)) = ((zrT (opsA ops)).spotsBy Prod.fst 0, 0) := by
  have h := zip_inv_all ops
  have hr := runL_right ops _ (Nat.le_refl _)
  rw [List.take_length] at hr
  have hk := spotsBy_keys Prod.fst (zrT (opsA ops)) 0
  rw [keysM_nd, h.nd_, List.map_map] at hk
  have hk2 : ((zrT (opsA ops)).spotsBy Prod.fst 0).map Prod.fst = (runL ops).1.map Prod.fst := by rw [hk]; simp [Function.comp_def, zk]
  have e : ((zrT (opsA ops)).spotsBy Prod.fst 0).map (fun x => (x.1, hgtF x.1)) = nd (zrT (opsA ops)) := by
    rw [h.nd_, ← hk2, List.map_map]; rfl
  have hm : mapRight (nd (zrT (opsA ops))) = 0 := by
    rw [mapRight_keys _ (runL ops).1 (by rw [h.nd_, List.map_map]; simp [Function.comp_def, zk])]; exact hr
  rw [e, heapOf, if_pos hm, heapTree_nd _ h.hp (by rw [h.nd_]; exact zk_up h.up), skZ_spots]
end Go.Proofs.YtfgbbmjnjppfnaaDoor
namespace Go.Proofs.YtfgbbmjnjppfnaaDoor
open Go.ChangeShapes Go.WideShapes Go.ChangeAt Go.RowKit
set_option linter.unusedVariables false
set_option linter.unusedSimpArgs false

def KeyRel (l : List IP) (w : World) (ov iv : Value) (wr : World) : Prop := ∃ k : Nat, k ≤ l.length ∧ iv = .int .i64 k ∧ OW wr w.heap.size 3 eInt ov ((l.take k).map Prod.fst) ∧ Kp w wr
set_option maxRecDepth 100000 in
set_option maxHeartbeats 1000000 in
theorem spotKeys_any (l : List IP) (v : Value) (w : World) (hr : RD w ePair v l) (hn : l.length ≤ 8796093022207) : Calls Tryd.prog 13 #[v] w (RetOW 3 eInt (l.map Prod.fst) w) := by
  obtain ⟨A, c, rfl, hc, hm⟩ := hr.shape
  have HR := hide hr
  clear hr
  go_enter Tryd.func13, Tryd.ntmps13
  go_wp2
  go_loopw [3, 8] (KeyRel l w) (fun _ i _ => l.length - (intOf i).toNat)
  case atStart => exact ⟨0, by omega, rfl, OW.nil, Kp.refl _⟩
  case round =>
    obtain ⟨k, hk, rfl, ho, hkp⟩ := hrel
    have hi := ho.hi
    have HO := hide ho
    obtain ⟨u, hu⟩ : ∃ u, u = u3 := ⟨_, rfl⟩
    by_cases hlt : k < l.length
    · obtain ⟨b, o, rfl, _, x0, x1⟩ := (HR.out.kp hkp).pair hlt
      obtain ⟨y, hy⟩ : ∃ y, y = l[k].1 := ⟨_, rfl⟩
      rw [← hy] at x0
      have HN : Hid ((l.take k).map Prod.fst ++ [y] = (l.take (k + 1)).map Prod.fst) := hide (by rw [List.take_succ_eq_append_getElem hlt, List.map_append, hy]; rfl)
      have HM1 : Hid ((((l.take k).map Prod.fst).length + [y].length) * 8 ≤ 140737488355328) := hide (by simp; omega)
      have HM2 : Hid (((l.take k).map Prod.fst).length + [y].length ≤ maxLen) := hide (by simp [maxLen]; omega)
      clear hy ho hu
      go_wp2_with (at_builtin; (with_reducible refine list_app (B := w.heap.size) (l := (l.take k).map Prod.fst) (m := [y]) row_int u3 ?_ (.tmp 12) (.tmp 15) ?_ ?_ ?_ ?_ HM1.out HM2.out ?_ ?_); (with_reducible rfl); (with_reducible rfl); rfl; ((with_reducible apply OW.alloc); (with_reducible apply OW.alloc); exact HO.out); (show RD _ _ (.slice (some ⟨_, 0, none⟩) 1 1) _; (focus ((repeat (first | (with_reducible assumption) | exact RD.new1 _ rfl | (refine RD.new1e _ ?_ rfl; simp; done) | (with_reducible apply RD.alloc) | (with_reducible apply RD.drew) | (with_reducible apply RD.drewN) | ((with_reducible apply RD.belowR); (with_reducible assumption)))); done))); (have := hkp.size; simp; omega); intro v3 w3 ho3 hg3 hat3)
      go_roundw
      case rel => exact ⟨k + 1, by omega, by go_num, by rw [← HN.out]; exact ho3, Kp.app hg3 hkp.alloc.alloc hi⟩
      case measure => simp [intOf]; omega
    · have hkl : Hid ((l.take k).map Prod.fst = l.map Prod.fst) := hide (by rw [List.take_of_length_le (by omega)])
      clear ho hu
      go_wp2
      go_ret
      exact ⟨_, rfl, by rw [← hkl.out]; exact HO.out, hkp.bel⟩
end Go.Proofs.YtfgbbmjnjppfnaaDoor
