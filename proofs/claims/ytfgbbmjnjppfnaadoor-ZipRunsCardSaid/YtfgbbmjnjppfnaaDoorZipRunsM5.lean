/-
  vine.read: what it answers. Conditions: the list reads as l (RD).
  zip.over, unzipped, zipped: what they answer. Conditions: the trees are written as MR says.
-/
import Derived.Test.YtfgbbmjnjppfnaaDoorZipRunsM4
import Derived.Test.YtfgbbmjnjppfnaaDoorZipRunsM3
import Derived.BigQuiet

namespace Go.Proofs.YtfgbbmjnjppfnaaDoor
open Go.ChangeShapes Go.WideShapes Go.ChangeAt Go.RowKit
set_option linter.unusedVariables false
set_option linter.unusedSimpArgs false

def ePtr : Enc (Option Addr) := ⟨1, fun p => [.pointer p], fun _ => rfl, fun _ u h => by simp at h; subst h; rfl⟩
theorem flat_ptr (l : List (Option Addr)) : l.flatMap ePtr.cells = l.map Value.pointer := by
  induction l with
  | nil => rfl
  | cons a t ih => rw [List.flatMap_cons, ih]; rfl
theorem AR.ptr {w : World} {g : Nat} {e : TypeId} {l : List (Option Addr)} (h : AR w g e ePtr l) {k : Nat} (hk : k < l.length) : w.cell? ⟨g, k, none⟩ = some (.pointer l[k]) := by
  have := h.cell k hk 0 (by decide)
  simpa [ePtr] using this
theorem AR.setPtr {w : World} {g : Nat} {e : TypeId} {l : List (Option Addr)} (h : AR w g e ePtr l) {k : Nat} (x : Option Addr) : AR (w.setCell ⟨g, k, none⟩ (.pointer x)) g e ePtr (l.set k x) := by
  unfold AR at h ⊢
  simp only [World.setCell, Array.getElem?_modify, h]
  simp [flat_ptr, List.map_set]

/-! Plain: the links that a list of parents makes, one by one. -/
def gI (up : List Int) (k : Nat) : Int := up.getD k 0
def lpF (up : List Int) : Nat → Nat → Option Nat
  | 0, _ => none
  | i + 1, k => if gI up i = k ∧ i < k then some i else lpF up i k
def rpF (up : List Int) : Nat → Nat → Option Nat
  | 0, _ => none
  | i + 1, k => if gI up i = k ∧ k ≤ i then some i else rpF up i k
def rtF (up : List Int) : Nat → Option Nat
  | 0 => none
  | i + 1 => if gI up i < 0 then some i else rtF up i
theorem lpF_none (up : List Int) (k : Nat) : ∀ i, (∀ j, j < i → j < k → gI up j ≠ k) → lpF up i k = none
  | 0, _ => rfl
  | i + 1, h => by
    rw [lpF, if_neg (fun ⟨a, b⟩ => h i (by omega) b a)]
    exact lpF_none up k i fun j a b => h j (by omega) b
theorem rpF_none (up : List Int) (k : Nat) : ∀ i, (∀ j, j < i → k ≤ j → gI up j ≠ k) → rpF up i k = none
  | 0, _ => rfl
  | i + 1, h => by
    rw [rpF, if_neg (fun ⟨a, b⟩ => h i (by omega) b a)]
    exact rpF_none up k i fun j a b => h j (by omega) b
theorem lpF_some (up : List Int) (k j : Nat) (hjk : j < k) (hg : gI up j = k) : ∀ i, j < i → (∀ m, m < i → m < k → gI up m = k → m = j) → lpF up i k = some j
  | 0, h, _ => by omega
  | i + 1, h, hu => by
    rw [lpF]
    split
    · next c => rw [hu i (by omega) c.2 c.1]
    · next c =>
      have : j ≠ i := by rintro rfl; exact c ⟨hg, hjk⟩
      exact lpF_some up k j hjk hg i (by omega) fun m a b c => hu m (by omega) b c
theorem rpF_some (up : List Int) (k j : Nat) (hjk : k ≤ j) (hg : gI up j = k) : ∀ i, j < i → (∀ m, m < i → k ≤ m → gI up m = k → m = j) → rpF up i k = some j
  | 0, h, _ => by omega
  | i + 1, h, hu => by
    rw [rpF]
    split
    · next c => rw [hu i (by omega) c.2 c.1]
    · next c =>
      have : j ≠ i := by rintro rfl; exact c ⟨hg, hjk⟩
      exact rpF_some up k j hjk hg i (by omega) fun m a b c => hu m (by omega) b c
theorem rtF_some (up : List Int) (j : Nat) (hg : gI up j < 0) : ∀ i, j < i → (∀ m, m < i → gI up m < 0 → m = j) → rtF up i = some j
  | 0, h, _ => by omega
  | i + 1, h, hu => by
    rw [rtF]
    split
    · next c => rw [hu i (by omega) c]
    · next c =>
      have : j ≠ i := by rintro rfl; exact c hg
      exact rtF_some up j hg i (by omega) fun m a b => hu m (by omega) b
def PT.root : PT → Option Nat
  | .nil => none
  | .node p _ _ => some p
theorem PT.root_in : ∀ (t : PT) (lo q : Nat), t.At lo → t.root = some q → lo ≤ q ∧ q < lo + t.size
  | .nil, _, _, _, h => by simp [root] at h
  | .node p l r, lo, q, ⟨hp, _, _⟩, h => by simp [root] at h; simp only [size]; omega
/-- Of the parents in a part: only its root's is the one given. -/
theorem PT.pars_in : ∀ (t : PT) (lo : Nat) (u : Int), t.At lo → ∀ j, j < t.size → ∃ v, (t.pars u)[j]? = some v ∧ ((t.root = some (lo + j) ∧ v = u) ∨ (t.root ≠ some (lo + j) ∧ (lo : Int) ≤ v ∧ v < lo + t.size))
  | .nil, _, _, _, j, h => by simp [size] at h
  | .node p l r, lo, u, ⟨hp, hl, hr⟩, j, h => by
    simp only [size] at h ⊢
    rw [PT.pars_node]
    rcases Nat.lt_trichotomy j l.size with hj | hj | hj
    · rw [if_pos hj]
      obtain ⟨v, h1, h2⟩ := PT.pars_in l lo p hl j hj
      refine ⟨v, h1, .inr ⟨by simp [root]; omega, ?_⟩⟩
      rcases h2 with ⟨_, rfl⟩ | ⟨_, h3⟩
      · constructor <;> push_cast <;> omega
      · constructor <;> push_cast <;> omega
    · rw [if_neg (by omega), if_pos hj]
      exact ⟨u, rfl, .inl ⟨by simp [root]; omega, rfl⟩⟩
    · rw [if_neg (by omega), if_neg (by omega)]
      obtain ⟨v, h1, h2⟩ := PT.pars_in r (p + 1) p hr (j - (l.size + 1)) (by omega)
      refine ⟨v, h1, .inr ⟨by simp [root]; omega, ?_⟩⟩
      rcases h2 with ⟨_, rfl⟩ | ⟨_, h3⟩
      · constructor <;> push_cast <;> omega
      · constructor <;> push_cast <;> omega
def mtP (ks : List Int) : PT → MT Int
  | .nil => .nil
  | .node p l r => .node (ks.getD p 0) (mtP ks l) (mtP ks r)
def adB (bl : List Nat) (o : Option Nat) : Option Addr := o.map fun j => ⟨bl.getD j 0, 0, none⟩
def fP (bl : List Nat) : PT → List Nat
  | .nil => []
  | .node p l r => bl.getD p 0 :: (fP bl l ++ fP bl r)
theorem fP_in (bl : List Nat) : ∀ (t : PT) (lo : Nat), t.At lo → ∀ x ∈ fP bl t, ∃ j, lo ≤ j ∧ j < lo + t.size ∧ x = bl.getD j 0
  | .nil, _, _, x, h => by simp [fP] at h
  | .node p l r, lo, ⟨hp, hl, hr⟩, x, h => by
    simp only [PT.size]
    simp only [fP, List.mem_cons, List.mem_append] at h
    rcases h with rfl | h | h
    · exact ⟨p, by omega, by omega, rfl⟩
    · obtain ⟨j, h1, h2, h3⟩ := fP_in bl l lo hl x h
      exact ⟨j, by omega, by omega, h3⟩
    · obtain ⟨j, h1, h2, h3⟩ := fP_in bl r (p + 1) hr x h
      exact ⟨j, by omega, by omega, h3⟩
theorem gI_of {up : List Int} {j : Nat} {v : Int} {m : List Int} {i : Nat} (h : gI up j = m.getD i 0) (hv : m[i]? = some v) : gI up j = v := by
  rw [h, List.getD_eq_getElem?_getD, hv]; rfl
theorem mtP_mr {w : World} {nt : TypeId} {E : Enc Int} (up ks : List Int) (bl : List Nat) (n : Nat) (hbl : ∀ i j, i < n → j < n → bl.getD i 0 = bl.getD j 0 → i = j)
    (hB : ∀ k, k < n → BC w (bl.getD k 0) nt (nodeC E (ks.getD k 0) (adB bl (lpF up n k)) (adB bl (rpF up n k)))) :
    ∀ (t : PT) (lo : Nat) (u : Int), t.At lo → lo + t.size ≤ n → (u < lo ∨ (lo : Int) + t.size ≤ u) → (∀ j, j < t.size → gI up (lo + j) = (t.pars u).getD j 0) →
      (∀ j, j < n → (j < lo ∨ lo + t.size ≤ j) → (gI up j < lo ∨ (lo : Int) + t.size ≤ gI up j)) → MR w nt E (mtP ks t) (adB bl t.root) (fP bl t)
  | .nil, lo, u, _, _, _, _, _ => ⟨rfl, rfl⟩
  | .node p l r, lo, u, ⟨hp, hl, hr⟩, hn, hu, hin, hout => by
    simp only [PT.size] at hn hu hin hout
    push_cast at hu hout
    have inL : ∀ j, j < l.size → gI up (lo + j) = (l.pars p).getD j 0 := fun j hj => by
      rw [hin j (by omega), List.getD_eq_getElem?_getD, List.getD_eq_getElem?_getD, PT.pars_node, if_pos hj]
    have inR : ∀ j, j < r.size → gI up (p + 1 + j) = (r.pars p).getD j 0 := fun j hj => by
      have h9 := hin (l.size + 1 + j) (by omega)
      rw [List.getD_eq_getElem?_getD, PT.pars_node, if_neg (by omega), if_neg (by omega), show l.size + 1 + j - (l.size + 1) = j from by omega, show lo + (l.size + 1 + j) = p + 1 + j from by omega] at h9
      rw [h9, List.getD_eq_getElem?_getD]
    have atP : gI up p = u := by
      have h9 := hin l.size (by omega)
      rw [List.getD_eq_getElem?_getD, PT.pars_node, if_neg (by omega), if_pos rfl, ← hp] at h9
      exact h9
    have valL : ∀ j, lo ≤ j → j < p → (l.root = some j ∧ gI up j = p) ∨ (l.root ≠ some j ∧ (lo : Int) ≤ gI up j ∧ gI up j < p) := fun j h1 h2 => by
      obtain ⟨v, hv, hc⟩ := PT.pars_in l lo p hl (j - lo) (by omega)
      have := gI_of (inL (j - lo) (by omega)) hv
      rw [show lo + (j - lo) = j from by omega] at this hc
      rw [this]
      rcases hc with hc | hc
      · exact .inl hc
      · exact .inr ⟨hc.1, hc.2.1, by have := hc.2.2; omega⟩
    have valR : ∀ j, p + 1 ≤ j → j < p + 1 + r.size → (r.root = some j ∧ gI up j = p) ∨ (r.root ≠ some j ∧ (p + 1 : Int) ≤ gI up j ∧ gI up j < p + 1 + r.size) := fun j h1 h2 => by
      obtain ⟨v, hv, hc⟩ := PT.pars_in r (p + 1) p hr (j - (p + 1)) (by omega)
      have := gI_of (inR (j - (p + 1)) (by omega)) hv
      rw [show p + 1 + (j - (p + 1)) = j from by omega] at this hc
      rw [this]
      rcases hc with hc | hc
      · exact .inl hc
      · exact .inr ⟨hc.1, by have := hc.2.1; push_cast at this; omega, by have := hc.2.2; push_cast at this; omega⟩
    have hout' : ∀ j, j < n → (j < lo ∨ p + 1 + r.size ≤ j) → (gI up j < lo ∨ (p : Int) + 1 + r.size ≤ gI up j) := fun j h1 h2 => by
      have := hout j h1 (by omega)
      omega
    have eL : lpF up n p = l.root := by
      cases hrt : l.root with
      | none =>
        refine lpF_none up p n fun j h1 h2 he => ?_
        rcases Nat.lt_or_ge j lo with h3 | h3
        · have := hout' j h1 (.inl h3); omega
        · rcases valL j h3 h2 with ⟨h4, _⟩ | ⟨_, h4⟩
          · rw [hrt] at h4; cases h4
          · omega
      | some q =>
        have hq := PT.root_in l lo q hl hrt
        have hgq : gI up q = p := by
          rcases valL q hq.1 (by omega) with h4 | h4
          · exact h4.2
          · exact absurd hrt h4.1
        refine lpF_some up p q (by omega) hgq n (by omega) fun m h1 h2 he => ?_
        rcases Nat.lt_or_ge m lo with h3 | h3
        · have := hout' m h1 (.inl h3); omega
        · rcases valL m h3 h2 with ⟨h4, _⟩ | ⟨_, h4⟩
          · rw [hrt] at h4; injection h4 with h4; exact h4.symm
          · omega
    have eR : rpF up n p = r.root := by
      cases hrt : r.root with
      | none =>
        refine rpF_none up p n fun j h1 h2 he => ?_
        rcases Nat.lt_or_ge p j with h9 | h9
        case inr =>
          obtain rfl : j = p := by omega
          rw [atP] at he; omega
        rcases Nat.lt_or_ge j (p + 1 + r.size) with h3 | h3
        · rcases valR j (by omega) h3 with ⟨h4, _⟩ | ⟨_, h4⟩
          · rw [hrt] at h4; cases h4
          · omega
        · have := hout' j h1 (.inr h3); omega
      | some q =>
        have hq := PT.root_in r (p + 1) q hr hrt
        have hgq : gI up q = p := by
          rcases valR q hq.1 (by omega) with h4 | h4
          · exact h4.2
          · exact absurd hrt h4.1
        refine rpF_some up p q (by omega) hgq n (by omega) fun m h1 h2 he => ?_
        rcases Nat.lt_or_ge p m with h9 | h9
        case inr =>
          obtain rfl : m = p := by omega
          rw [atP] at he; omega
        rcases Nat.lt_or_ge m (p + 1 + r.size) with h3 | h3
        · rcases valR m (by omega) h3 with ⟨h4, _⟩ | ⟨_, h4⟩
          · rw [hrt] at h4; injection h4 with h4; exact h4.symm
          · omega
        · have := hout' m h1 (.inr h3); omega
    have ihL := mtP_mr up ks bl n hbl hB l lo p hl (by omega) (by omega) inL fun j h1 h2 => by
      rcases h2 with h2 | h2
      · have := hout' j h1 (.inl h2); omega
      · rcases Nat.lt_trichotomy j p with h3 | h3 | h3
        · omega
        · subst h3; rw [atP]; omega
        · rcases Nat.lt_or_ge j (p + 1 + r.size) with h4 | h4
          · rcases valR j (by omega) h4 with ⟨_, h5⟩ | ⟨_, h5⟩ <;> omega
          · have := hout' j h1 (.inr h4); omega
    have ihR := mtP_mr up ks bl n hbl hB r (p + 1) p hr (by omega) (by push_cast; omega) inR fun j h1 h2 => by
      push_cast
      rcases h2 with h2 | h2
      · rcases Nat.lt_trichotomy j p with h3 | h3 | h3
        · rcases Nat.lt_or_ge j lo with h4 | h4
          · have := hout' j h1 (.inl h4); omega
          · rcases valL j h4 h3 with ⟨_, h5⟩ | ⟨_, h5⟩ <;> omega
        · subst h3; rw [atP]; omega
        · omega
      · have := hout' j h1 (.inr h2); omega
    have hb := hB p (by omega)
    rw [eL, eR] at hb
    refine MR.mk hb (fun h => ?_) (fun h => ?_) (fun x h h' => ?_) ihL ihR
    · obtain ⟨j, h1, h2, h3⟩ := fP_in bl l lo hl _ h
      have := hbl p j (by omega) (by omega) h3
      omega
    · obtain ⟨j, h1, h2, h3⟩ := fP_in bl r (p + 1) hr _ h
      have := hbl p j (by omega) (by omega) h3
      omega
    · obtain ⟨j, h1, h2, h3⟩ := fP_in bl l lo hl _ h
      obtain ⟨j', h4, h5, h6⟩ := fP_in bl r (p + 1) hr _ h'
      have := hbl j j' (by omega) (by omega) (h3.symm.trans h6)
      omega
theorem mtP_root (up : List Int) (t : PT) (n : Nat) (ha : t.At 0) (hs : t.size = n) (hu : up = t.pars (-1)) : rtF up n = t.root := by
  have hv : ∀ j, j < n → (t.root = some j ∧ gI up j = -1) ∨ (t.root ≠ some j ∧ 0 ≤ gI up j) := fun j hj => by
    obtain ⟨v, h1, h2⟩ := PT.pars_in t 0 (-1) ha j (by omega)
    have : gI up j = v := by rw [gI, hu, List.getD_eq_getElem?_getD, h1]; rfl
    rw [this]
    rw [Nat.zero_add] at h2
    rcases h2 with h2 | h2
    · exact .inl h2
    · exact .inr ⟨h2.1, by have := h2.2.1; push_cast at this; omega⟩
  cases t with
  | nil => simp [PT.size] at hs; subst hs; rfl
  | node p l r =>
    have hp := PT.root_in (.node p l r) 0 p ha rfl
    refine rtF_some up p ?_ n (by omega) fun m h1 h2 => ?_
    · rcases hv p (by omega) with h | h
      · omega
      · exact absurd rfl h.1
    · rcases hv m h1 with ⟨h, _⟩ | ⟨_, h⟩
      · simp [PT.root] at h; exact h.symm
      · omega
/-! The row of nodes. -/
def mkA (b : Nat) : Option Addr := some ⟨b, 0, none⟩
def arB (bl : List Nat) (n : Nat) : List (Option Addr) := bl.map mkA ++ List.replicate (n - bl.length) none
theorem arB_len (bl : List Nat) (n : Nat) (h : bl.length ≤ n) : (arB bl n).length = n := by simp [arB]; omega
theorem arB_set (bl : List Nat) (n b : Nat) (h : bl.length < n) : (arB bl n).set bl.length (mkA b) = arB (bl ++ [b]) n := by
  unfold arB
  rw [List.set_append_right _ _ (by simp), show n - bl.length = (n - (bl ++ [b]).length) + 1 from by simp; omega, List.replicate_succ]
  simp
theorem arB_at (bl : List Nat) (n k : Nat) (h : k < bl.length) (h2 : k < (arB bl n).length) : (arB bl n)[k] = mkA (bl.getD k 0) := by
  simp [arB, List.getElem_append_left, h]
def Bks (w : World) (nt : TypeId) (E : Enc Int) (ks : List Int) (bl : List Nat) (pl pr : Nat → Option Nat) : Prop := ∀ k, k < bl.length → BC w (bl.getD k 0) nt (nodeC E (ks.getD k 0) (adB bl (pl k)) (adB bl (pr k)))
def Inj (bl : List Nat) : Prop := ∀ i j, i < bl.length → j < bl.length → bl.getD i 0 = bl.getD j 0 → i = j
theorem Inj.snoc {bl : List Nat} {b : Nat} (h : Inj bl) (hb : ∀ k, k < bl.length → bl.getD k 0 < b) : Inj (bl ++ [b]) := by
  intro i j hi hj he
  simp only [List.length_append, List.length_cons, List.length_nil] at hi hj
  have e : ∀ k, k < bl.length → (bl ++ [b]).getD k 0 = bl.getD k 0 := fun k hk => by simp [List.getD_eq_getElem?_getD, List.getElem?_append_left hk]
  have e2 : (bl ++ [b]).getD bl.length 0 = b := by simp [List.getD_eq_getElem?_getD]
  rcases Nat.lt_or_ge i bl.length with h1 | h1
  · rcases Nat.lt_or_ge j bl.length with h2 | h2
    · rw [e i h1, e j h2] at he; exact h i j h1 h2 he
    · obtain rfl : j = bl.length := by omega
      rw [e i h1, e2] at he; have := hb i h1; omega
  · obtain rfl : i = bl.length := by omega
    rcases Nat.lt_or_ge j bl.length with h2 | h2
    · rw [e j h2, e2] at he; have := hb j h2; omega
    · omega
theorem getD_snoc_lt {bl : List Nat} {b k : Nat} (h : k < bl.length) : (bl ++ [b]).getD k 0 = bl.getD k 0 := by simp [List.getD_eq_getElem?_getD, List.getElem?_append_left h]
theorem getD_snoc_at {bl : List Nat} {b : Nat} : (bl ++ [b]).getD bl.length 0 = b := by simp [List.getD_eq_getElem?_getD]
theorem Bks.kp {w w' : World} {nt : TypeId} {E : Enc Int} {ks : List Int} {bl : List Nat} {pl pr : Nat → Option Nat} (h : Bks w nt E ks bl pl pr) (hk : Kp w w') : Bks w' nt E ks bl pl pr := fun k hl => (h k hl).kp hk
theorem Bks.snoc {w : World} {nt : TypeId} {E : Enc Int} {ks : List Int} {bl : List Nat} {b : Nat} (h : Bks w nt E ks bl (fun _ => none) (fun _ => none)) (hb : BC w b nt (nodeC E (ks.getD bl.length 0) none none)) : Bks w nt E ks (bl ++ [b]) (fun _ => none) (fun _ => none) := by
  intro k hk
  simp only [List.length_append, List.length_cons, List.length_nil] at hk
  rcases Nat.lt_or_ge k bl.length with h1 | h1
  · rw [getD_snoc_lt h1]; exact h k h1
  · obtain rfl : k = bl.length := by omega
    rw [getD_snoc_at]; exact hb
theorem nodeC_setl {E : Enc Int} (a : Int) (pl pr x : Option Addr) : (nodeC E a pl pr).set (lk E true) (.pointer x) = nodeC E a x pr := by
  have h := E.len a
  unfold nodeC lk
  rw [List.set_append_right _ _ (by simp [h])]
  simp [h]
theorem nodeC_setr {E : Enc Int} (a : Int) (pl pr x : Option Addr) : (nodeC E a pl pr).set (lk E false) (.pointer x) = nodeC E a pl x := by
  have h := E.len a
  unfold nodeC lk
  rw [List.set_append_right _ _ (by simp [h])]
  simp [h]
theorem Bks.set {w : World} {nt : TypeId} {E : Enc Int} {ks : List Int} {bl : List Nat} {pl pr pl' pr' : Nat → Option Nat} (h : Bks w nt E ks bl pl pr) (hi : Inj bl) (p : Nat) (hp : p < bl.length) (left : Bool) (o : Option Nat)
    (h1 : ∀ k, k < bl.length → k ≠ p → pl' k = pl k ∧ pr' k = pr k) (h2 : (if left then pl' p else pr' p) = o) (h3 : (if left then pr' p = pr p else pl' p = pl p)) :
    Bks (w.setCell ⟨bl.getD p 0, lk E left, none⟩ (.pointer (adB bl o))) nt E ks bl pl' pr' := by
  intro k hk
  by_cases hkp : k = p
  · subst hkp
    have := (h k hk).set (j := lk E left) (u := .pointer (adB bl o))
    cases left with
    | true => simp only [if_true] at h2 h3; rw [h2, h3]; rw [nodeC_setl] at this; exact this
    | false => simp only [Bool.false_eq_true, if_false] at h2 h3; rw [h2, h3]; rw [nodeC_setr] at this; exact this
  · obtain ⟨e1, e2⟩ := h1 k hk hkp
    rw [e1, e2]
    exact (h k hk).far fun e => hkp (hi k p hk hp e)
def vineT (l : List IP) : MT Int := if (parOf l).2 ≠ 0 then .nil else match ptR l 0 l.length 0 with | some t => mtP (l.map Prod.fst) t | none => .nil
def V1Rel (l : List IP) (w : World) (g : Nat) (pt nt : TypeId) (E : Enc Int) (iv : Value) (wr : World) : Prop :=
  ∃ (k : Nat) (bl : List Nat), k ≤ l.length ∧ iv = .int .i64 k ∧ bl.length = k ∧ AR wr g pt ePtr (arB bl l.length) ∧ Bks wr nt E (l.map Prod.fst) bl (fun _ => none) (fun _ => none) ∧ (∀ j, j < bl.length → g < bl.getD j 0) ∧ Inj bl ∧ Kp w wr
def V2Rel (l : List IP) (up : List Int) (bl : List Nat) (w : World) (g : Nat) (pt nt : TypeId) (E : Enc Int) (rv iv : Value) (wr : World) : Prop :=
  ∃ k : Nat, k ≤ l.length ∧ iv = .int .i64 k ∧ rv = .pointer (adB bl (rtF up k)) ∧ AR wr g pt ePtr (arB bl l.length) ∧ Bks wr nt E (l.map Prod.fst) bl (lpF up k) (rpF up k) ∧ Kp w wr
def VRPost (nt : TypeId) (l : List IP) (w : World) (e : Ending) (w' : World) : Prop :=
  ∃ p F, e = .returned (.tuple #[.pointer p, .int .i64 (parOf l).2]) ∧ MR w' nt eInt (vineT l) p F ∧ (∀ x ∈ F, w.heap.size ≤ x) ∧ Kp w w'
theorem zero_ptr' {P : Program} {e : TypeId} (h : (P.info? e).map (fun i => (i.zero, i.size, i.bytes)) = some (some (.pointer none), 1, 8)) : ∀ i z, P.info? e = some i → i.zero = some z → z.cells.toList = ePtr.cells none := zero_of h rfl
end Go.Proofs.YtfgbbmjnjppfnaaDoor
namespace Go.Proofs.YtfgbbmjnjppfnaaDoor
open Go.ChangeShapes Go.WideShapes Go.ChangeAt Go.RowKit
set_option linter.unusedVariables false
set_option linter.unusedSimpArgs false

/-- Does one stand above another one? -/
def ov (a c : IP) : Bool := decide (c.2 < a.2) || (a.2 == c.2 && decide (a.1 < c.1))
def unz : MT IP → Int → MT IP × MT IP
  | .nil, _ => (.nil, .nil)
  | .node a l r, k => if a.1 < k then (.node a l (unz r k).1, (unz r k).2) else ((unz l k).1, .node a (unz l k).2 r)
def zipM : MT IP → MT IP → MT IP
  | .nil, t => t
  | .node a l r, .nil => .node a l r
  | .node a l r, .node c x y => if ov a c then .node a l (zipM r (.node c x y)) else .node c (zipM (.node a l r) x) y
termination_by t u => t.size + u.size
decreasing_by all_goals simp only [MT.size]; omega
theorem zipM_nil (t : MT IP) : zipM t .nil = t := by cases t <;> simp [zipM]
theorem zipM_node (a c : IP) (l r x y : MT IP) : zipM (.node a l r) (.node c x y) = if ov a c then .node a l (zipM r (.node c x y)) else .node c (zipM (.node a l r) x) y := by rw [zipM]
set_option maxRecDepth 100000 in
set_option maxHeartbeats 2000000 in
theorem over_any (b1 b2 : Nat) (a c : IP) (w : World) (x0 : w.cell? ⟨b1, 0, none⟩ = some (.int .i64 a.1)) (x1 : w.cell? ⟨b1, 1, none⟩ = some (.int .i64 a.2)) (y0 : w.cell? ⟨b2, 0, none⟩ = some (.int .i64 c.1)) (y1 : w.cell? ⟨b2, 1, none⟩ = some (.int .i64 c.2)) :
    Calls Tryd.prog 57 #[.pointer (some ⟨b1, 0, none⟩), .pointer (some ⟨b2, 0, none⟩)] w (Ret (.bool (ov a c)) w) := by
  obtain ⟨a1, a2⟩ := a
  obtain ⟨c1, c2⟩ := c
  simp only at x0 x1 y0 y1
  rcases Int.lt_trichotomy c2 a2 with h | h | h
  · have H : Hid (ov (a1, a2) (c1, c2) = true) := hide (by simp [ov, h])
    have d1 : decide (c2 < a2) = true := by simp [h]
    go_enter Tryd.func57, Tryd.ntmps57
    go_wp2_with fail
    go_quiet (fail)
    go_wp2
    go_ret
    exact ⟨by rw [H.out]; rfl, below_drewN (Below.refl _ _) _⟩
  · subst h
    by_cases h2 : a1 < c1
    · have H : Hid (ov (a1, c2) (c1, c2) = true) := hide (by simp [ov, h2])
      have d1 : decide (c2 < c2) = false := by simp
      have d2 : (c2 == c2) = true := by simp
      have d3 : decide (a1 < c1) = true := by simp [h2]
      go_enter Tryd.func57, Tryd.ntmps57
      go_wp2_with fail
      go_quiet (fail)
      go_wp2
      go_ret
      exact ⟨by rw [H.out]; rfl, below_drewN (Below.refl _ _) _⟩
    · have H : Hid (ov (a1, c2) (c1, c2) = false) := hide (by simp [ov]; omega)
      have d1 : decide (c2 < c2) = false := by simp
      have d2 : (c2 == c2) = true := by simp
      have d3 : decide (a1 < c1) = false := by simp; omega
      go_enter Tryd.func57, Tryd.ntmps57
      go_wp2_with fail
      go_quiet (fail)
      go_wp2
      go_ret
      exact ⟨by rw [H.out]; rfl, below_drewN (Below.refl _ _) _⟩
  · have H : Hid (ov (a1, a2) (c1, c2) = false) := hide (by simp [ov]; omega)
    have d1 : decide (c2 < a2) = false := by simp; omega
    have d2 : (a2 == c2) = false := by simp; omega
    go_enter Tryd.func57, Tryd.ntmps57
    go_wp2_with fail
    go_quiet (fail)
    go_wp2
    go_ret
    exact ⟨by rw [H.out]; rfl, below_drewN (Below.refl _ _) _⟩

/-- A call that parts a tree. -/
def UzPost (nt : TypeId) (t : MT IP × MT IP) (F : List Nat) (w : World) (e : Ending) (w' : World) : Prop :=
  ∃ pa pb Fa Fb, e = .returned (.tuple #[.pointer pa, .pointer pb]) ∧ MR w' nt ePair t.1 pa Fa ∧ MR w' nt ePair t.2 pb Fb ∧ (∀ x ∈ Fa, x ∈ F) ∧ (∀ x ∈ Fb, x ∈ F) ∧ (∀ x ∈ Fa, x ∉ Fb) ∧ Kf (fun i => i ∈ F) w w'
set_option maxRecDepth 100000 in
set_option maxHeartbeats 2000000 in
theorem unzipped_any : ∀ (t : MT IP) (p : Option Addr) (F : List Nat) (k : Int) (w : World), MR w 113 ePair t p F → Calls Tryd.prog 35 #[.pointer p, .int .i64 k] w (UzPost 113 (unz t k) F w)
  | .nil, p, F, k, w, hm => by
    obtain ⟨rfl, rfl⟩ := hm
    go_enter Tryd.func35, Tryd.ntmps35
    go_wp2
    exact bodyPost_ret (v := .tuple #[.pointer none, .pointer none]) (by simp [results, Tryd.results35, go_sem]) rfl ⟨none, none, [], [], rfl, MR.nil, MR.nil, by simp, by simp, by simp, Kf.refl _ _⟩
  | .node a l r, p, F, k, w, hm => by
    obtain ⟨b, pl, pr, Fl, Fr, rfl, rfl, hb, g1, g2, g3, hl, hr⟩ := hm
    have x0 : w.cell? ⟨b, 0, none⟩ = some (.int .i64 a.1) := hb.cell 0
    have cl : w.cell? ⟨b, 2, none⟩ = some (.pointer pl) := hb.link true
    have cr : w.cell? ⟨b, 3, none⟩ = some (.pointer pr) := hb.link false
    have HB := hide hb
    have HL := hide hl
    have HR := hide hr
    have G1 := hide g1
    have G2 := hide g2
    have G3 := hide g3
    by_cases h1 : a.1 < k
    · have IH := hide (unzipped_any r pr Fr k w hr)
      have HF : Hid (unz (.node a l r) k = (.node a l (unz r k).1, (unz r k).2)) := hide (by rw [unz, if_pos h1])
      have d1 : decide (a.1 < k) = true := by simp [h1]
      clear hb hl hr g1 g2 g3 h1
      go_enter Tryd.func35, Tryd.ntmps35
      go_wp2_with fail
      with_reducible refine IH.out.mono ?_
      rintro e w1 ⟨pa, pb, Fa, Fb, rfl, ha, hb1, s1, s2, s3, hk⟩
      have HA := hide ha
      have HB1 := hide hb1
      have HK := hide hk
      have f0 : w1.frozen? ⟨b, 3, none⟩ = false := (HB.out.kf hk G2.out).frozen 3
      have c3 : w1.cell? ⟨b, 3, none⟩ = some (.pointer pr) := hk.cell (p := ⟨b, 3, none⟩) G2.out cr
      clear ha hb1 hk
      go_wp2
      have hba : b ∉ Fa := fun h => G2.out (s1 b h)
      have hbb : b ∉ Fb := fun h => G2.out (s2 b h)
      refine bodyPost_ret (v := .tuple #[.pointer (some ⟨b, 0, none⟩), .pointer pb]) (by simp [results, Tryd.results35, go_sem]) rfl ⟨_, pb, b :: (Fl ++ Fa), Fb, rfl, ?_, (by rw [HF.out]; exact HB1.out.set hbb), ?_, ?_, ?_, ?_⟩
      · rw [HF.out]
        refine MR.mk ?_ G1.out hba (fun x hx hx' => G3.out x hx (s1 x hx')) ((HL.out.kf HK.out (fun i hi h => G3.out i hi h)).set G1.out) (HA.out.set hba)
        exact (HB.out.kf HK.out G2.out).set (j := 3)
      · intro x hx
        simp only [List.mem_cons, List.mem_append] at hx ⊢
        rcases hx with h | h | h
        · exact .inl h
        · exact .inr (.inl h)
        · exact .inr (.inr (s1 x h))
      · intro x hx
        simp only [List.mem_cons, List.mem_append]
        exact .inr (.inr (s2 x hx))
      · intro x hx hx'
        simp only [List.mem_cons, List.mem_append] at hx
        rcases hx with h | h | h
        · subst h; exact hbb hx'
        · exact G3.out x h (s2 x hx')
        · exact s3 x h hx'
      · exact (HK.out.mono (G := fun i => i ∈ b :: (Fl ++ Fr)) (fun i _ h => by simp only [List.mem_cons, List.mem_append]; exact .inr (.inr h))).set (.inl (by simp))
    · have IH := hide (unzipped_any l pl Fl k w hl)
      have HF : Hid (unz (.node a l r) k = ((unz l k).1, .node a (unz l k).2 r)) := hide (by rw [unz, if_neg h1])
      have d1 : decide (a.1 < k) = false := by simp; omega
      clear hb hl hr g1 g2 g3 h1
      go_enter Tryd.func35, Tryd.ntmps35
      go_wp2_with fail
      with_reducible refine IH.out.mono ?_
      rintro e w1 ⟨pa, pb, Fa, Fb, rfl, ha, hb1, s1, s2, s3, hk⟩
      have HA := hide ha
      have HB1 := hide hb1
      have HK := hide hk
      have f0 : w1.frozen? ⟨b, 2, none⟩ = false := (HB.out.kf hk G1.out).frozen 2
      have c3 : w1.cell? ⟨b, 2, none⟩ = some (.pointer pl) := hk.cell (p := ⟨b, 2, none⟩) G1.out cl
      clear ha hb1 hk
      go_wp2
      have hba : b ∉ Fa := fun h => G1.out (s1 b h)
      have hbb : b ∉ Fb := fun h => G1.out (s2 b h)
      refine bodyPost_ret (v := .tuple #[.pointer pa, .pointer (some ⟨b, 0, none⟩)]) (by simp [results, Tryd.results35, go_sem]) rfl ⟨pa, _, Fa, b :: (Fb ++ Fr), rfl, (by rw [HF.out]; exact HA.out.set hba), ?_, ?_, ?_, ?_, ?_⟩
      · rw [HF.out]
        refine MR.mk ?_ hbb G2.out (fun x hx hx' => G3.out x (s2 x hx) hx') (HB1.out.set hbb) ((HR.out.kf HK.out (fun i hi h => G3.out i h hi)).set G2.out)
        exact (HB.out.kf HK.out G1.out).set (j := 2)
      · intro x hx
        simp only [List.mem_cons, List.mem_append]
        exact .inr (.inl (s1 x hx))
      · intro x hx
        simp only [List.mem_cons, List.mem_append] at hx ⊢
        rcases hx with h | h | h
        · exact .inl h
        · exact .inr (.inl (s2 x h))
        · exact .inr (.inr h)
      · intro x hx hx'
        simp only [List.mem_cons, List.mem_append] at hx'
        rcases hx' with h | h | h
        · subst h; exact hba hx
        · exact s3 x hx h
        · exact G3.out x (s1 x hx) h
      · exact (HK.out.mono (G := fun i => i ∈ b :: (Fl ++ Fr)) (fun i _ h => by simp only [List.mem_cons, List.mem_append]; exact .inr (.inl h))).set (.inl (by simp))

/-- A call that answers a tree of blocks that were there. -/
def ZpPost (nt : TypeId) (t : MT IP) (F : Nat → Prop) (w : World) (e : Ending) (w' : World) : Prop :=
  ∃ p F', e = .returned (.pointer p) ∧ MR w' nt ePair t p F' ∧ (∀ x ∈ F', F x) ∧ Kf F w w'
set_option maxRecDepth 100000 in
set_option maxHeartbeats 4000000 in
theorem zipped_any : ∀ (n : Nat) (t u : MT IP) (p q : Option Addr) (F G : List Nat) (w : World), t.size + u.size ≤ n → MR w 113 ePair t p F → MR w 113 ePair u q G → (∀ x ∈ F, x ∉ G) →
    Calls Tryd.prog 37 #[.pointer p, .pointer q] w (ZpPost 113 (zipM t u) (fun i => i ∈ F ∨ i ∈ G) w)
  | n, .nil, u, p, q, F, G, w, hn, hm, hu, hd => by
    obtain ⟨rfl, rfl⟩ := hm
    have HU := hide hu
    clear hu
    go_enter Tryd.func37, Tryd.ntmps37
    go_wp2
    exact bodyPost_ret (v := .pointer q) (by simp [results, Tryd.results37, go_sem]) rfl ⟨q, G, rfl, by rw [zipM]; exact HU.out, fun x hx => .inr hx, Kf.refl _ _⟩
  | n, .node a l r, .nil, p, q, F, G, w, hn, hm, hu, hd => by
    obtain ⟨rfl, rfl⟩ := hu
    have HM := hide hm
    obtain ⟨b, pl, pr, Fl, Fr, rfl, _⟩ := id hm
    clear hm
    go_enter Tryd.func37, Tryd.ntmps37
    go_wp2
    exact bodyPost_ret (v := .pointer (some ⟨b, 0, none⟩)) (by simp [results, Tryd.results37, go_sem]) rfl ⟨_, F, rfl, by rw [zipM_nil]; exact HM.out, fun x hx => .inl hx, Kf.refl _ _⟩
  | 0, .node a l r, .node c x y, p, q, F, G, w, hn, hm, hu, hd => by simp [MT.size] at hn
  | n + 1, .node a l r, .node c x y, p, q, F, G, w, hn, hm, hu, hd => by
    have HM := hide hm
    have HU := hide hu
    obtain ⟨b, pl, pr, Fl, Fr, rfl, rfl, hb, g1, g2, g3, hl, hr⟩ := hm
    obtain ⟨b2, px, py, Fx, Fy, rfl, rfl, hb2, k1, k2, k3, hx, hy⟩ := hu
    simp only [MT.size] at hn
    have x0 : w.cell? ⟨b, 0, none⟩ = some (.int .i64 a.1) := hb.cell 0
    have x1 : w.cell? ⟨b, 1, none⟩ = some (.int .i64 a.2) := hb.cell 1
    have y0 : w.cell? ⟨b2, 0, none⟩ = some (.int .i64 c.1) := hb2.cell 0
    have y1 : w.cell? ⟨b2, 1, none⟩ = some (.int .i64 c.2) := hb2.cell 1
    have HOV := hide (over_any b b2 a c w x0 x1 y0 y1)
    have cr : w.cell? ⟨b, 3, none⟩ = some (.pointer pr) := hb.link false
    have cx : w.cell? ⟨b2, 2, none⟩ = some (.pointer px) := hb2.link true
    have HB := hide hb
    have HB2 := hide hb2
    have HL := hide hl
    have HY := hide hy
    have hbG : b ∉ b2 :: (Fx ++ Fy) := hd b (by simp)
    have hb2F : b2 ∉ b :: (Fl ++ Fr) := fun h => hd b2 h (by simp)
    have hz := zipM_node a c l r x y
    cases hov : ov a c with
    | true =>
      rw [hov, if_pos rfl] at hz
      have HZ := hide hz
      rw [hov] at HOV
      have IH := hide (fun w1 h1 h2 => zipped_any n r (.node c x y) pr (some ⟨b2, 0, none⟩) Fr (b2 :: (Fx ++ Fy)) w1 (by simp only [MT.size]; omega) h1 h2 (fun i hi => hd i (by simp [hi])))
      have HR := hide hr
      have G1 := hide g1
      have G2 := hide g2
      have G3 := hide g3
      have HD := hide hd
      have HBG := hide hbG
      clear hb hb2 hl hr hx hy g1 g2 g3 k1 k2 k3 hd hz hov x0 x1 y0 y1 hbG hb2F cx
      go_enter Tryd.func37, Tryd.ntmps37
      go_wp2_with fail
      with_reducible refine HOV.out.mono ?_
      rintro e w1 ⟨rfl, hb1⟩
      have kk1 : Kp w w1 := Kp.of hb1
      have cr1 := kk1.cell cr
      clear hb1
      go_wp2_with fail
      with_reducible refine (IH.out _ (HR.out.kp kk1) (HU.out.kp kk1)).mono ?_
      rintro e w2 ⟨p2, F2, rfl, hm2, hF2, hk2⟩
      have hn2 : ¬ (b ∈ Fr ∨ b ∈ b2 :: (Fx ++ Fy)) := fun h => h.elim G2.out HBG.out
      have hb2' := (HB.out.kp kk1).kf hk2 hn2
      have HBB := hide hb2'
      have f0 : w2.frozen? ⟨b, 3, none⟩ = false := hb2'.frozen 3
      have c3 : w2.cell? ⟨b, 3, none⟩ = some (.pointer pr) := hb2'.link false
      have HM2 := hide hm2
      have HK2 := hide hk2
      have hbF2 : b ∉ F2 := fun h => hn2 (hF2 b h)
      have HHF := hide hF2
      have HBF := hide hbF2
      clear hb2' hm2 hk2 hbF2 hF2 hn2
      go_wp2
      refine bodyPost_ret (v := .pointer (some ⟨b, 0, none⟩)) (by simp [results, Tryd.results37, go_sem]) rfl ⟨_, b :: (Fl ++ F2), rfl, ?_, ?_, ?_⟩
      · rw [HZ.out]
        refine MR.mk ?_ G1.out HBF.out (fun i hi hi' => ?_) (((HL.out.kp kk1).kf HK2.out (fun i hi h => ?_)).set G1.out) (HM2.out.set HBF.out)
        · exact HBB.out.set (j := 3)
        · rcases HHF.out i hi' with h | h
          · exact G3.out i hi h
          · exact HD.out i (by simp [hi]) h
        · rcases h with h | h
          · exact G3.out i hi h
          · exact HD.out i (by simp [hi]) h
      · intro i hi
        simp only [List.mem_cons, List.mem_append] at hi ⊢
        rcases hi with h | h | h
        · exact .inl (.inl h)
        · exact .inl (.inr (.inl h))
        · rcases HHF.out i h with h | h
          · exact .inl (.inr (.inr h))
          · simp only [List.mem_cons, List.mem_append] at h; exact .inr h
      · have h9 : Kf (fun i => i ∈ b :: (Fl ++ Fr) ∨ i ∈ b2 :: (Fx ++ Fy)) w w2 := (Kf.of kk1).trans HK2.out (fun i _ h => by
          rcases h with h | h
          · exact .inl (by simp [h])
          · exact .inr h)
        exact h9.set (.inl (.inl (by simp)))
    | false =>
      rw [hov, if_neg (by simp)] at hz
      have HZ := hide hz
      rw [hov] at HOV
      have IH := hide (fun w1 h1 h2 => zipped_any n (.node a l r) x (some ⟨b, 0, none⟩) px (b :: (Fl ++ Fr)) Fx w1 (by simp only [MT.size]; omega) h1 h2 (fun i hi hi' => hd i hi (by simp [hi'])))
      have HX := hide hx
      have G1 := hide k1
      have G2 := hide k2
      have G3 := hide k3
      have HD := hide hd
      have HBG := hide hb2F
      clear hb hb2 hl hr hx hy g1 g2 g3 k1 k2 k3 hd hz hov x0 x1 y0 y1 hbG hb2F cr
      go_enter Tryd.func37, Tryd.ntmps37
      go_wp2_with fail
      with_reducible refine HOV.out.mono ?_
      rintro e w1 ⟨rfl, hb1⟩
      have kk1 : Kp w w1 := Kp.of hb1
      have cx1 := kk1.cell cx
      clear hb1
      go_wp2_with fail
      with_reducible refine (IH.out _ (HM.out.kp kk1) (HX.out.kp kk1)).mono ?_
      rintro e w2 ⟨p2, F2, rfl, hm2, hF2, hk2⟩
      have hn2 : ¬ (b2 ∈ b :: (Fl ++ Fr) ∨ b2 ∈ Fx) := fun h => h.elim HBG.out G1.out
      have hb2' := (HB2.out.kp kk1).kf hk2 hn2
      have HBB := hide hb2'
      have f0 : w2.frozen? ⟨b2, 2, none⟩ = false := hb2'.frozen 2
      have c3 : w2.cell? ⟨b2, 2, none⟩ = some (.pointer px) := hb2'.link true
      have HM2 := hide hm2
      have HK2 := hide hk2
      have hbF2 : b2 ∉ F2 := fun h => hn2 (hF2 b2 h)
      have HHF := hide hF2
      have HBF := hide hbF2
      clear hb2' hm2 hk2 hbF2 hF2 hn2
      go_wp2
      refine bodyPost_ret (v := .pointer (some ⟨b2, 0, none⟩)) (by simp [results, Tryd.results37, go_sem]) rfl ⟨_, b2 :: (F2 ++ Fy), rfl, ?_, ?_, ?_⟩
      · rw [HZ.out]
        refine MR.mk ?_ HBF.out G2.out (fun i hi hi' => ?_) (HM2.out.set HBF.out) (((HY.out.kp kk1).kf HK2.out (fun i hi h => ?_)).set G2.out)
        · exact HBB.out.set (j := 2)
        · rcases HHF.out i hi with h | h
          · exact HD.out i h (by simp [hi'])
          · exact G3.out i h hi'
        · rcases h with h | h
          · exact HD.out i h (by simp [hi])
          · exact G3.out i h hi
      · intro i hi
        simp only [List.mem_cons, List.mem_append] at hi ⊢
        rcases hi with h | h | h
        · exact .inr (.inl h)
        · rcases HHF.out i h with h | h
          · simp only [List.mem_cons, List.mem_append] at h; exact .inl h
          · exact .inr (.inr (.inl h))
        · exact .inr (.inr (.inr h))
      · have h9 : Kf (fun i => i ∈ b :: (Fl ++ Fr) ∨ i ∈ b2 :: (Fx ++ Fy)) w w2 := (Kf.of kk1).trans HK2.out (fun i _ h => by
          rcases h with h | h
          · exact .inl h
          · exact .inr (by simp [h]))
        exact h9.set (.inl (.inr (by simp)))
  termination_by n => n
end Go.Proofs.YtfgbbmjnjppfnaaDoor
