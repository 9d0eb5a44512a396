/-
  vine.read: what it answers. Conditions: the list reads as l (RD).
-/
import Derived.Test.YtfgbbmjnjppfnaaDoorMPt
namespace Go.Proofs.YtfgbbmjnjppfnaaDoor
open Go.ChangeShapes Go.WideShapes Go.ChangeAt Go.RowKit
set_option linter.unusedVariables false
set_option linter.unusedSimpArgs false

def ePtr : Enc (Option Addr) := ⟨1, fun p => [.pointer p], fun _ => rfl, fun _ u h => by simp at h; subst h; rfl⟩
theorem flat_ptr (l : List (Option Addr)) : l.flatMap ePtr.cells = l.map Value.pointer := by
  induction l with
  | nil => rfl
  | cons a t ih => rw [List.flatMap_cons, ih]; rfl
theorem AR.ptr {w : World} {g : Nat} {e : TypeId} {l : List (Option Addr)} (h : AR w g e ePtr l) {k : Nat} (hk : k < l.length) : w.cell? ⟨g, k, none⟩ = some (.pointer l[k]) := by
  have := h.cell k hk 0 (by decide)
  simpa [ePtr] using this
theorem AR.setPtr {w : World} {g : Nat} {e : TypeId} {l : List (Option Addr)} (h : AR w g e ePtr l) {k : Nat} (x : Option Addr) : AR (w.setCell ⟨g, k, none⟩ (.pointer x)) g e ePtr (l.set k x) := by
  unfold AR at h ⊢
  simp only [World.setCell, Array.getElem?_modify, h]
  simp [flat_ptr, List.map_set]

/-! Plain: the links that a list of parents makes, one by one. -/
def gI (up : List Int) (k : Nat) : Int := up.getD k 0
def lpF (up : List Int) : Nat → Nat → Option Nat
  | 0, _ => none
  | i + 1, k => if gI up i = k ∧ i < k then some i else lpF up i k
def rpF (up : List Int) : Nat → Nat → Option Nat
  | 0, _ => none
  | i + 1, k => if gI up i = k ∧ k ≤ i then some i else rpF up i k
def rtF (up : List Int) : Nat → Option Nat
  | 0 => none
  | i + 1 => if gI up i < 0 then some i else rtF up i
theorem lpF_none (up : List Int) (k : Nat) : ∀ i, (∀ j, j < i → j < k → gI up j ≠ k) → lpF up i k = none
  | 0, _ => rfl
  | i + 1, h => by
    rw [lpF, if_neg (fun ⟨a, b⟩ => h i (by omega) b a)]
    exact lpF_none up k i fun j a b => h j (by omega) b
theorem rpF_none (up : List Int) (k : Nat) : ∀ i, (∀ j, j < i → k ≤ j → gI up j ≠ k) → rpF up i k = none
  | 0, _ => rfl
  | i + 1, h => by
    rw [rpF, if_neg (fun ⟨a, b⟩ => h i (by omega) b a)]
    exact rpF_none up k i fun j a b => h j (by omega) b
theorem lpF_some (up : List Int) (k j : Nat) (hjk : j < k) (hg : gI up j = k) : ∀ i, j < i → (∀ m, m < i → m < k → gI up m = k → m = j) → lpF up i k = some j
  | 0, h, _ => by omega
  | i + 1, h, hu => by
    rw [lpF]
    split
    · next c => rw [hu i (by omega) c.2 c.1]
    · next c =>
      have : j ≠ i := by rintro rfl; exact c ⟨hg, hjk⟩
      exact lpF_some up k j hjk hg i (by omega) fun m a b c => hu m (by omega) b c
theorem rpF_some (up : List Int) (k j : Nat) (hjk : k ≤ j) (hg : gI up j = k) : ∀ i, j < i → (∀ m, m < i → k ≤ m → gI up m = k → m = j) → rpF up i k = some j
  | 0, h, _ => by omega
  | i + 1, h, hu => by
    rw [rpF]
    split
    · next c => rw [hu i (by omega) c.2 c.1]
    · next c =>
      have : j ≠ i := by rintro rfl; exact c ⟨hg, hjk⟩
      exact rpF_some up k j hjk hg i (by omega) fun m a b c => hu m (by omega) b c
theorem rtF_some (up : List Int) (j : Nat) (hg : gI up j < 0) : ∀ i, j < i → (∀ m, m < i → gI up m < 0 → m = j) → rtF up i = some j
  | 0, h, _ => by omega
  | i + 1, h, hu => by
    rw [rtF]
    split
    · next c => rw [hu i (by omega) c]
    · next c =>
      have : j ≠ i := by rintro rfl; exact c hg
      exact rtF_some up j hg i (by omega) fun m a b => hu m (by omega) b
def PT.root : PT → Option Nat
  | .nil => none
  | .node p _ _ => some p
theorem PT.root_in : ∀ (t : PT) (lo q : Nat), t.At lo → t.root = some q → lo ≤ q ∧ q < lo + t.size
  | .nil, _, _, _, h => by simp [root] at h
  | .node p l r, lo, q, ⟨hp, _, _⟩, h => by simp [root] at h; simp only [size]; omega
/-- Of the parents in a part: only its root's is the one given. -/
theorem PT.pars_in : ∀ (t : PT) (lo : Nat) (u : Int), t.At lo → ∀ j, j < t.size → ∃ v, (t.pars u)[j]? = some v ∧ ((t.root = some (lo + j) ∧ v = u) ∨ (t.root ≠ some (lo + j) ∧ (lo : Int) ≤ v ∧ v < lo + t.size))
  | .nil, _, _, _, j, h => by simp [size] at h
  | .node p l r, lo, u, ⟨hp, hl, hr⟩, j, h => by
    simp only [size] at h ⊢
    rw [PT.pars_node]
    rcases Nat.lt_trichotomy j l.size with hj | hj | hj
    · rw [if_pos hj]
      obtain ⟨v, h1, h2⟩ := PT.pars_in l lo p hl j hj
      refine ⟨v, h1, .inr ⟨by simp [root]; omega, ?_⟩⟩
      rcases h2 with ⟨_, rfl⟩ | ⟨_, h3⟩
      · constructor <;> push_cast <;> omega
      · constructor <;> push_cast <;> omega
    · rw [if_neg (by omega), if_pos hj]
      exact ⟨u, rfl, .inl ⟨by simp [root]; omega, rfl⟩⟩
    · rw [if_neg (by omega), if_neg (by omega)]
      obtain ⟨v, h1, h2⟩ := PT.pars_in r (p + 1) p hr (j - (l.size + 1)) (by omega)
      refine ⟨v, h1, .inr ⟨by simp [root]; omega, ?_⟩⟩
      rcases h2 with ⟨_, rfl⟩ | ⟨_, h3⟩
      · constructor <;> push_cast <;> omega
      · constructor <;> push_cast <;> omega
def mtP (ks : List Int) : PT → MT Int
  | .nil => .nil
  | .node p l r => .node (ks.getD p 0) (mtP ks l) (mtP ks r)
def adB (bl : List Nat) (o : Option Nat) : Option Addr := o.map fun j => ⟨bl.getD j 0, 0, none⟩
def fP (bl : List Nat) : PT → List Nat
  | .nil => []
  | .node p l r => bl.getD p 0 :: (fP bl l ++ fP bl r)
theorem fP_in (bl : List Nat) : ∀ (t : PT) (lo : Nat), t.At lo → ∀ x ∈ fP bl t, ∃ j, lo ≤ j ∧ j < lo + t.size ∧ x = bl.getD j 0
  | .nil, _, _, x, h => by simp [fP] at h
  | .node p l r, lo, ⟨hp, hl, hr⟩, x, h => by
    simp only [PT.size]
    simp only [fP, List.mem_cons, List.mem_append] at h
    rcases h with rfl | h | h
    · exact ⟨p, by omega, by omega, rfl⟩
    · obtain ⟨j, h1, h2, h3⟩ := fP_in bl l lo hl x h
      exact ⟨j, by omega, by omega, h3⟩
    · obtain ⟨j, h1, h2, h3⟩ := fP_in bl r (p + 1) hr x h
      exact ⟨j, by omega, by omega, h3⟩
theorem gI_of {up : List Int} {j : Nat} {v : Int} {m : List Int} {i : Nat} (h : gI up j = m.getD i 0) (hv : m[i]? = some v) : gI up j = v := by
  rw [h, List.getD_eq_getElem?_getD, hv]; rfl
theorem mtP_mr {w : World} {nt : TypeId} {E : Enc Int} (up ks : List Int) (bl : List Nat) (n : Nat) (hbl : ∀ i j, i < n → j < n → bl.getD i 0 = bl.getD j 0 → i = j)
    (hB : ∀ k, k < n → BC w (bl.getD k 0) nt (nodeC E (ks.getD k 0) (adB bl (lpF up n k)) (adB bl (rpF up n k)))) :
    ∀ (t : PT) (lo : Nat) (u : Int), t.At lo → lo + t.size ≤ n → (u < lo ∨ (lo : Int) + t.size ≤ u) → (∀ j, j < t.size → gI up (lo + j) = (t.pars u).getD j 0) →
      (∀ j, j < n → (j < lo ∨ lo + t.size ≤ j) → (gI up j < lo ∨ (lo : Int) + t.size ≤ gI up j)) → MR w nt E (mtP ks t) (adB bl t.root) (fP bl t)
  | .nil, lo, u, _, _, _, _, _ => ⟨rfl, rfl⟩
  | .node p l r, lo, u, ⟨hp, hl, hr⟩, hn, hu, hin, hout => by
    simp only [PT.size] at hn hu hin hout
    push_cast at hu hout
    have inL : ∀ j, j < l.size → gI up (lo + j) = (l.pars p).getD j 0 := fun j hj => by
      rw [hin j (by omega), List.getD_eq_getElem?_getD, List.getD_eq_getElem?_getD, PT.pars_node, if_pos hj]
    have inR : ∀ j, j < r.size → gI up (p + 1 + j) = (r.pars p).getD j 0 := fun j hj => by
      have h9 := hin (l.size + 1 + j) (by omega)
      rw [List.getD_eq_getElem?_getD, PT.pars_node, if_neg (by omega), if_neg (by omega), show l.size + 1 + j - (l.size + 1) = j from by omega, show lo + (l.size + 1 + j) = p + 1 + j from by omega] at h9
      rw [h9, List.getD_eq_getElem?_getD]
    have atP : gI up p = u := by
      have h9 := hin l.size (by omega)
      rw [List.getD_eq_getElem?_getD, PT.pars_node, if_neg (by omega), if_pos rfl, ← hp] at h9
      exact h9
    have valL : ∀ j, lo ≤ j → j < p → (l.root = some j ∧ gI up j = p) ∨ (l.root ≠ some j ∧ (lo : Int) ≤ gI up j ∧ gI up j < p) := fun j h1 h2 => by
      obtain ⟨v, hv, hc⟩ := PT.pars_in l lo p hl (j - lo) (by omega)
      have := gI_of (inL (j - lo) (by omega)) hv
      rw [show lo + (j - lo) = j from by omega] at this hc
      rw [this]
      rcases hc with hc | hc
      · exact .inl hc
      · exact .inr ⟨hc.1, hc.2.1, by have := hc.2.2; omega⟩
    have valR : ∀ j, p + 1 ≤ j → j < p + 1 + r.size → (r.root = some j ∧ gI up j = p) ∨ (r.root ≠ some j ∧ (p + 1 : Int) ≤ gI up j ∧ gI up j < p + 1 + r.size) := fun j h1 h2 => by
      obtain ⟨v, hv, hc⟩ := PT.pars_in r (p + 1) p hr (j - (p + 1)) (by omega)
      have := gI_of (inR (j - (p + 1)) (by omega)) hv
      rw [show p + 1 + (j - (p + 1)) = j from by omega] at this hc
      rw [this]
      rcases hc with hc | hc
      · exact .inl hc
      · exact .inr ⟨hc.1, by have := hc.2.1; push_cast at this; omega, by have := hc.2.2; push_cast at this; omega⟩
    have hout' : ∀ j, j < n → (j < lo ∨ p + 1 + r.size ≤ j) → (gI up j < lo ∨ (p : Int) + 1 + r.size ≤ gI up j) := fun j h1 h2 => by
      have := hout j h1 (by omega)
      omega
    have eL : lpF up n p = l.root := by
      cases hrt : l.root with
      | none =>
        refine lpF_none up p n fun j h1 h2 he => ?_
        rcases Nat.lt_or_ge j lo with h3 | h3
        · have := hout' j h1 (.inl h3); omega
        · rcases valL j h3 h2 with ⟨h4, _⟩ | ⟨_, h4⟩
          · rw [hrt] at h4; cases h4
          · omega
      | some q =>
        have hq := PT.root_in l lo q hl hrt
        have hgq : gI up q = p := by
          rcases valL q hq.1 (by omega) with h4 | h4
          · exact h4.2
          · exact absurd hrt h4.1
        refine lpF_some up p q (by omega) hgq n (by omega) fun m h1 h2 he => ?_
        rcases Nat.lt_or_ge m lo with h3 | h3
        · have := hout' m h1 (.inl h3); omega
        · rcases valL m h3 h2 with ⟨h4, _⟩ | ⟨_, h4⟩
          · rw [hrt] at h4; injection h4 with h4; exact h4.symm
          · omega
    have eR : rpF up n p = r.root := by
      cases hrt : r.root with
      | none =>
        refine rpF_none up p n fun j h1 h2 he => ?_
        rcases Nat.lt_or_ge p j with h9 | h9
        case inr =>
          obtain rfl : j = p := by omega
          rw [atP] at he; omega
        rcases Nat.lt_or_ge j (p + 1 + r.size) with h3 | h3
        · rcases valR j (by omega) h3 with ⟨h4, _⟩ | ⟨_, h4⟩
          · rw [hrt] at h4; cases h4
          · omega
        · have := hout' j h1 (.inr h3); omega
      | some q =>
        have hq := PT.root_in r (p + 1) q hr hrt
        have hgq : gI up q = p := by
          rcases valR q hq.1 (by omega) with h4 | h4
          · exact h4.2
          · exact absurd hrt h4.1
        refine rpF_some up p q (by omega) hgq n (by omega) fun m h1 h2 he => ?_
        rcases Nat.lt_or_ge p m with h9 | h9
        case inr =>
          obtain rfl : m = p := by omega
          rw [atP] at he; omega
        rcases Nat.lt_or_ge m (p + 1 + r.size) with h3 | h3
        · rcases valR m (by omega) h3 with ⟨h4, _⟩ | ⟨_, h4⟩
          · rw [hrt] at h4; injection h4 with h4; exact h4.symm
          · omega
        · have := hout' m h1 (.inr h3); omega
    have ihL := mtP_mr up ks bl n hbl hB l lo p hl (by omega) (by omega) inL fun j h1 h2 => by
      rcases h2 with h2 | h2
      · have := hout' j h1 (.inl h2); omega
      · rcases Nat.lt_trichotomy j p with h3 | h3 | h3
        · omega
        · subst h3; rw [atP]; omega
        · rcases Nat.lt_or_ge j (p + 1 + r.size) with h4 | h4
          · rcases valR j (by omega) h4 with ⟨_, h5⟩ | ⟨_, h5⟩ <;> omega
          · have := hout' j h1 (.inr h4); omega
    have ihR := mtP_mr up ks bl n hbl hB r (p + 1) p hr (by omega) (by push_cast; omega) inR fun j h1 h2 => by
      push_cast
      rcases h2 with h2 | h2
      · rcases Nat.lt_trichotomy j p with h3 | h3 | h3
        · rcases Nat.lt_or_ge j lo with h4 | h4
          · have := hout' j h1 (.inl h4); omega
          · rcases valL j h4 h3 with ⟨_, h5⟩ | ⟨_, h5⟩ <;> omega
        · subst h3; rw [atP]; omega
        · omega
      · have := hout' j h1 (.inr h2); omega
    have hb := hB p (by omega)
    rw [eL, eR] at hb
    refine MR.mk hb (fun h => ?_) (fun h => ?_) (fun x h h' => ?_) ihL ihR
    · obtain ⟨j, h1, h2, h3⟩ := fP_in bl l lo hl _ h
      have := hbl p j (by omega) (by omega) h3
      omega
    · obtain ⟨j, h1, h2, h3⟩ := fP_in bl r (p + 1) hr _ h
      have := hbl p j (by omega) (by omega) h3
      omega
    · obtain ⟨j, h1, h2, h3⟩ := fP_in bl l lo hl _ h
      obtain ⟨j', h4, h5, h6⟩ := fP_in bl r (p + 1) hr _ h'
      have := hbl j j' (by omega) (by omega) (h3.symm.trans h6)
      omega
theorem mtP_root (up : List Int) (t : PT) (n : Nat) (ha : t.At 0) (hs : t.size = n) (hu : up = t.pars (-1)) : rtF up n = t.root := by
  have hv : ∀ j, j < n → (t.root = some j ∧ gI up j = -1) ∨ (t.root ≠ some j ∧ 0 ≤ gI up j) := fun j hj => by
    obtain ⟨v, h1, h2⟩ := PT.pars_in t 0 (-1) ha j (by omega)
    have : gI up j = v := by rw [gI, hu, List.getD_eq_getElem?_getD, h1]; rfl
    rw [this]
    rw [Nat.zero_add] at h2
    rcases h2 with h2 | h2
    · exact .inl h2
    · exact .inr ⟨h2.1, by have := h2.2.1; push_cast at this; omega⟩
  cases t with
  | nil => simp [PT.size] at hs; subst hs; rfl
  | node p l r =>
    have hp := PT.root_in (.node p l r) 0 p ha rfl
    refine rtF_some up p ?_ n (by omega) fun m h1 h2 => ?_
    · rcases hv p (by omega) with h | h
      · omega
      · exact absurd rfl h.1
    · rcases hv m h1 with ⟨h, _⟩ | ⟨_, h⟩
      · simp [PT.root] at h; exact h.symm
      · omega
/-! The row of nodes. -/
def mkA (b : Nat) : Option Addr := some ⟨b, 0, none⟩
def arB (bl : List Nat) (n : Nat) : List (Option Addr) := bl.map mkA ++ List.replicate (n - bl.length) none
theorem arB_len (bl : List Nat) (n : Nat) (h : bl.length ≤ n) : (arB bl n).length = n := by simp [arB]; omega
theorem arB_set (bl : List Nat) (n b : Nat) (h : bl.length < n) : (arB bl n).set bl.length (mkA b) = arB (bl ++ [b]) n := by
  unfold arB
  rw [List.set_append_right _ _ (by simp), show n - bl.length = (n - (bl ++ [b]).length) + 1 from by simp; omega, List.replicate_succ]
  simp
theorem arB_at (bl : List Nat) (n k : Nat) (h : k < bl.length) (h2 : k < (arB bl n).length) : (arB bl n)[k] = mkA (bl.getD k 0) := by
  simp [arB, List.getElem_append_left, h]
def Bks (w : World) (nt : TypeId) (E : Enc Int) (ks : List Int) (bl : List Nat) (pl pr : Nat → Option Nat) : Prop := ∀ k, k < bl.length → BC w (bl.getD k 0) nt (nodeC E (ks.getD k 0) (adB bl (pl k)) (adB bl (pr k)))
def Inj (bl : List Nat) : Prop := ∀ i j, i < bl.length → j < bl.length → bl.getD i 0 = bl.getD j 0 → i = j
theorem Inj.snoc {bl : List Nat} {b : Nat} (h : Inj bl) (hb : ∀ k, k < bl.length → bl.getD k 0 < b) : Inj (bl ++ [b]) := by
  intro i j hi hj he
  simp only [List.length_append, List.length_cons, List.length_nil] at hi hj
  have e : ∀ k, k < bl.length → (bl ++ [b]).getD k 0 = bl.getD k 0 := fun k hk => by simp [List.getD_eq_getElem?_getD, List.getElem?_append_left hk]
  have e2 : (bl ++ [b]).getD bl.length 0 = b := by simp [List.getD_eq_getElem?_getD]
  rcases Nat.lt_or_ge i bl.length with h1 | h1
  · rcases Nat.lt_or_ge j bl.length with h2 | h2
    · rw [e i h1, e j h2] at he; exact h i j h1 h2 he
    · obtain rfl : j = bl.length := by omega
      rw [e i h1, e2] at he; have := hb i h1; omega
  · obtain rfl : i = bl.length := by omega
    rcases Nat.lt_or_ge j bl.length with h2 | h2
    · rw [e j h2, e2] at he; have := hb j h2; omega
    · omega
theorem getD_snoc_lt {bl : List Nat} {b k : Nat} (h : k < bl.length) : (bl ++ [b]).getD k 0 = bl.getD k 0 := by simp [List.getD_eq_getElem?_getD, List.getElem?_append_left h]
theorem getD_snoc_at {bl : List Nat} {b : Nat} : (bl ++ [b]).getD bl.length 0 = b := by simp [List.getD_eq_getElem?_getD]
theorem Bks.kp {w w' : World} {nt : TypeId} {E : Enc Int} {ks : List Int} {bl : List Nat} {pl pr : Nat → Option Nat} (h : Bks w nt E ks bl pl pr) (hk : Kp w w') : Bks w' nt E ks bl pl pr := fun k hl => (h k hl).kp hk
theorem Bks.snoc {w : World} {nt : TypeId} {E : Enc Int} {ks : List Int} {bl : List Nat} {b : Nat} (h : Bks w nt E ks bl (fun _ => none) (fun _ => none)) (hb : BC w b nt (nodeC E (ks.getD bl.length 0) none none)) : Bks w nt E ks (bl ++ [b]) (fun _ => none) (fun _ => none) := by
  intro k hk
  simp only [List.length_append, List.length_cons, List.length_nil] at hk
  rcases Nat.lt_or_ge k bl.length with h1 | h1
  · rw [getD_snoc_lt h1]; exact h k h1
  · obtain rfl : k = bl.length := by omega
    rw [getD_snoc_at]; exact hb
theorem nodeC_setl {E : Enc Int} (a : Int) (pl pr x : Option Addr) : (nodeC E a pl pr).set (lk E true) (.pointer x) = nodeC E a x pr := by
  have h := E.len a
  unfold nodeC lk
  rw [List.set_append_right _ _ (by simp [h])]
  simp [h]
theorem nodeC_setr {E : Enc Int} (a : Int) (pl pr x : Option Addr) : (nodeC E a pl pr).set (lk E false) (.pointer x) = nodeC E a pl x := by
  have h := E.len a
  unfold nodeC lk
  rw [List.set_append_right _ _ (by simp [h])]
  simp [h]
theorem Bks.set {w : World} {nt : TypeId} {E : Enc Int} {ks : List Int} {bl : List Nat} {pl pr pl' pr' : Nat → Option Nat} (h : Bks w nt E ks bl pl pr) (hi : Inj bl) (p : Nat) (hp : p < bl.length) (left : Bool) (o : Option Nat)
    (h1 : ∀ k, k < bl.length → k ≠ p → pl' k = pl k ∧ pr' k = pr k) (h2 : (if left then pl' p else pr' p) = o) (h3 : (if left then pr' p = pr p else pl' p = pl p)) :
    Bks (w.setCell ⟨bl.getD p 0, lk E left, none⟩ (.pointer (adB bl o))) nt E ks bl pl' pr' := by
  intro k hk
  by_cases hkp : k = p
  · subst hkp
    have := (h k hk).set (j := lk E left) (u := .pointer (adB bl o))
    cases left with
    | true => simp only [if_true] at h2 h3; rw [h2, h3]; rw [nodeC_setl] at this; exact this
    | false => simp only [Bool.false_eq_true, if_false] at h2 h3; rw [h2, h3]; rw [nodeC_setr] at this; exact this
  · obtain ⟨e1, e2⟩ := h1 k hk hkp
    rw [e1, e2]
    exact (h k hk).far fun e => hkp (hi k p hk hp e)
def vineT (l : List IP) : MT Int := if (parOf l).2 ≠ 0 then .nil else match ptR l 0 l.length 0 with | some t => mtP (l.map Prod.fst) t | none => .nil
def V1Rel (l : List IP) (w : World) (g : Nat) (pt nt : TypeId) (E : Enc Int) (iv : Value) (wr : World) : Prop :=
  ∃ (k : Nat) (bl : List Nat), k ≤ l.length ∧ iv = .int .i64 k ∧ bl.length = k ∧ AR wr g pt ePtr (arB bl l.length) ∧ Bks wr nt E (l.map Prod.fst) bl (fun _ => none) (fun _ => none) ∧ (∀ j, j < bl.length → g < bl.getD j 0) ∧ Inj bl ∧ Kp w wr
def V2Rel (l : List IP) (up : List Int) (bl : List Nat) (w : World) (g : Nat) (pt nt : TypeId) (E : Enc Int) (rv iv : Value) (wr : World) : Prop :=
  ∃ k : Nat, k ≤ l.length ∧ iv = .int .i64 k ∧ rv = .pointer (adB bl (rtF up k)) ∧ AR wr g pt ePtr (arB bl l.length) ∧ Bks wr nt E (l.map Prod.fst) bl (lpF up k) (rpF up k) ∧ Kp w wr
def VRPost (nt : TypeId) (l : List IP) (w : World) (e : Ending) (w' : World) : Prop :=
  ∃ p F, e = .returned (.tuple #[.pointer p, .int .i64 (parOf l).2]) ∧ MR w' nt eInt (vineT l) p F ∧ (∀ x ∈ F, w.heap.size ≤ x) ∧ Kp w w'
theorem zero_ptr' {P : Program} {e : TypeId} (h : (P.info? e).map (fun i => (i.zero, i.size, i.bytes)) = some (some (.pointer none), 1, 8)) : ∀ i z, P.info? e = some i → i.zero = some z → z.cells.toList = ePtr.cells none := zero_of h rfl
end Go.Proofs.YtfgbbmjnjppfnaaDoor
