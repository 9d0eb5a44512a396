/-
  hedgref.TreeOf, hedgref.SpotsRight: what they answer. Conditions: the list reads as l (RD).
-/
import Derived.Test.YtcpponjknmkfaaaTree
import Derived.Test.YtcpponjknmkfaaaWalk
import Derived.Test.YtcpponjknmkfaaaParLaw
namespace Go.Proofs.Ytcpponjknmkfaaa
open Go.ChangeShapes Go.WideShapes Go.ChangeAt Go.RowKit
set_option linter.unusedVariables false
set_option linter.unusedSimpArgs false

theorem topF_spec (l : List IP) (lo : Nat) : ∀ n k a al, lo ≤ a → a < k → (∀ j, lo ≤ j → j < k → gv l a ≤ gv l j) → (al = true → ∀ j, lo ≤ j → j < k → j ≠ a → gv l a < gv l j) → (al = false → ∃ j, lo ≤ j ∧ j < k ∧ j ≠ a ∧ gv l j = gv l a) →
    lo ≤ (topF l n k a al).1 ∧ (topF l n k a al).1 < k + n ∧ (∀ j, lo ≤ j → j < k + n → gv l (topF l n k a al).1 ≤ gv l j) ∧ ((topF l n k a al).2 = true → ∀ j, lo ≤ j → j < k + n → j ≠ (topF l n k a al).1 → gv l (topF l n k a al).1 < gv l j) ∧
      ((topF l n k a al).2 = false → ∃ j, lo ≤ j ∧ j < k + n ∧ j ≠ (topF l n k a al).1 ∧ gv l j = gv l (topF l n k a al).1)
  | 0, k, a, al, h0, h1, h2, h3, h4 => ⟨h0, by simpa [topF] using h1, by simpa [topF] using h2, by simpa [topF] using h3, by simpa [topF] using h4⟩
  | n + 1, k, a, al, h0, h1, h2, h3, h4 => by
    rw [topF, show k + (n + 1) = (k + 1) + n from by omega]
    split
    · rename_i hlt
      refine topF_spec l lo n (k + 1) k true (by omega) (by omega) (fun j j1 j2 => ?_) (fun _ j j1 j2 j3 => ?_) (by simp)
      · rcases Nat.lt_or_ge j k with h | h
        · have := h2 j j1 h; omega
        · rw [show j = k from by omega]; exact Int.le_refl _
      · have := h2 j j1 (by omega); omega
    · rename_i hnl
      split
      · rename_i heq
        refine topF_spec l lo n (k + 1) a false h0 (by omega) (fun j j1 j2 => ?_) (by simp) (fun _ => ⟨k, by omega, by omega, by omega, heq⟩)
        rcases Nat.lt_or_ge j k with h | h
        · exact h2 j j1 h
        · rw [show j = k from by omega]; omega
      · rename_i hne
        refine topF_spec l lo n (k + 1) a al h0 (by omega) (fun j j1 j2 => ?_) (fun hal j j1 j2 j3 => ?_) (fun hal => ?_)
        · rcases Nat.lt_or_ge j k with h | h
          · exact h2 j j1 h
          · rw [show j = k from by omega]; omega
        · rcases Nat.lt_or_ge j k with h | h
          · exact h3 hal j j1 h j3
          · rw [show j = k from by omega]; omega
        · obtain ⟨j, a1, a2, a3, a4⟩ := h4 hal
          exact ⟨j, a1, by omega, a3, a4⟩
theorem topS_min (l : List IP) (lo hi : Nat) (h : lo < hi) : (∀ j, lo ≤ j → j < hi → gv l (topS l lo hi).1 ≤ gv l j) ∧ ((topS l lo hi).2 = true → ∀ j, lo ≤ j → j < hi → j ≠ (topS l lo hi).1 → gv l (topS l lo hi).1 < gv l j) := by
  have := topF_spec l lo (hi - (lo + 1)) (lo + 1) lo true (Nat.le_refl _) (by omega) (fun j a b => by rw [show j = lo from by omega]; exact Int.le_refl _) (fun _ j a b c => by omega) (by simp)
  rw [show lo + 1 + (hi - (lo + 1)) = hi from by omega] at this
  exact ⟨this.2.2.1, this.2.2.2.1⟩

def treeOf (l : List IP) (d : Int) : T × Bool :=
  if h : l = [] then (.nil, true)
  else
    have := topS_in l 0 l.length (List.length_pos_iff.2 h)
    if (topS l 0 l.length).2 = true ∧ gv l (topS l 0 l.length).1 = d then
      (.node (gk l (topS l 0 l.length).1) (treeOf (l.take (topS l 0 l.length).1) (d + 1)).1 (treeOf (l.drop ((topS l 0 l.length).1 + 1)) (d + 1)).1,
        (treeOf (l.take (topS l 0 l.length).1) (d + 1)).2 && (treeOf (l.drop ((topS l 0 l.length).1 + 1)) (d + 1)).2)
    else (.nil, false)
termination_by l.length
decreasing_by all_goals simp <;> omega
theorem treeOf_nil (d : Int) : treeOf [] d = (.nil, true) := by rw [treeOf]; simp
theorem treeOf_node (l : List IP) (d : Int) (m : Nat) (hm : m < l.length) (h1 : gv l m = d) (h2 : ∀ j, j < l.length → j ≠ m → d < gv l j) : treeOf l d = (.node (gk l m) (treeOf (l.take m) (d + 1)).1 (treeOf (l.drop (m + 1)) (d + 1)).1, (treeOf (l.take m) (d + 1)).2 && (treeOf (l.drop (m + 1)) (d + 1)).2) := by
  have ht := topS_find l 0 l.length m (by omega) hm (fun j _ b c => by rw [h1]; exact h2 j b c)
  rw [treeOf, dif_neg (by rintro rfl; simp at hm)]
  simp only [ht, h1, and_self, if_true]
theorem treeOf_none (l : List IP) (d : Int) (h0 : l ≠ []) (h : ¬ ∃ m, m < l.length ∧ gv l m = d ∧ ∀ j, j < l.length → j ≠ m → d < gv l j) : treeOf l d = (.nil, false) := by
  have hpos := List.length_pos_iff.2 h0
  rw [treeOf, dif_neg h0]
  simp only
  rw [if_neg]
  rintro ⟨h1, h2⟩
  have ht := topS_in l 0 l.length hpos
  have hmn := (topS_min l 0 l.length hpos).2 h1
  exact h ⟨_, ht.2, h2, fun j a b => by have := hmn j (by omega) a b; omega⟩

def TrPost (r : T × Bool) (w : World) (e : Ending) (w' : World) : Prop := ∃ p, e = .returned (.tuple #[.pointer p, .bool r.2]) ∧ TR w' r.1 p ∧ Below w.heap.size w w'
def ToRel (l : List IP) (d : Int) (w : World) (av iv : Value) (wr : World) : Prop :=
  ∃ (k : Nat) (a : Int), k ≤ l.length ∧ iv = .int .i64 k ∧ av = .int .i64 a ∧ (∀ j (h : j < l.length), j < k → d ≤ l[j].2) ∧ ((a = -1 ∧ ∀ j (h : j < l.length), j < k → l[j].2 ≠ d) ∨ ∃ (m : Nat) (hm : m < l.length), a = m ∧ m < k ∧ l[m].2 = d ∧ ∀ j (h : j < l.length), j < k → j ≠ m → l[j].2 ≠ d) ∧ Kp w wr

set_option maxRecDepth 100000 in
set_option maxHeartbeats 4000000 in
theorem treeOf_any (n : Nat) : ∀ (l : List IP) (v : Value) (d : Int) (w : World), l.length ≤ n → n ≤ 100000 → 0 ≤ d → d + n ≤ 1000000 → RD w ePair v l → Calls Try.prog 21 #[v, .int .i64 d] w (TrPost (treeOf l d) w) := by
  induction n with
  | zero =>
    intro l v d w h1 h2 h3 h4 hr
    obtain rfl : l = [] := List.eq_nil_of_length_eq_zero (by omega)
    obtain ⟨A, c, rfl, hc, hm⟩ := hr.shape
    clear hr
    go_enter Try.func21, Try.ntmps21
    go_wp2
    go_ret2
    exact ⟨_, by rw [treeOf_nil]; rfl, by rw [treeOf_nil]; rfl, Below.refl _ _⟩
  | succ n ih =>
    intro l v d w h1 h2 h3 h4 hr
    have IH := hide ih
    clear ih
    obtain ⟨A, c, rfl, hc, hm⟩ := hr.shape
    by_cases hl0 : l = []
    · subst hl0
      clear hr
      go_enter Try.func21, Try.ntmps21
      go_wp2
      go_ret2
      exact ⟨_, by rw [treeOf_nil]; rfl, by rw [treeOf_nil]; rfl, Below.refl _ _⟩
    · have hpos : 0 < l.length := List.length_pos_iff.2 hl0
      have hle0 : ((l.length : Int) == 0) = false := by rw [beq_eq_false_iff_ne]; omega
      have HL0 := hide hl0
      have HR := hide hr
      clear hr hl0
      go_enter Try.func21, Try.ntmps21
      go_wp2
      go_loopw [6, 18] (ToRel l d w) (fun _ i _ => l.length - (intOf i).toNat)
      case atStart => exact ⟨0, -1, by omega, rfl, rfl, fun j h a => by omega, .inl ⟨rfl, fun j h a => by omega⟩, Kp.refl _⟩
      case round =>
        obtain ⟨k, a, hk, rfl, rfl, hge, hat, hkp⟩ := hrel
        have HGE := hide hge
        have HAT := hide hat
        clear hge hat
        by_cases hlt : k < l.length
        · obtain ⟨b, o, rfl, _, c0, c1⟩ := (HR.out.kp hkp).pair hlt
          obtain ⟨y, hy⟩ : ∃ y, y = l[k].2 := ⟨_, rfl⟩
          rw [← hy] at c1
          have HY := hide hy
          have hgvk : Hid (gv l k = y) := hide (by rw [gv_eq l k hlt, hy])
          clear hy
          by_cases hyd : y = d
          · have d1 : (y == d) = true := by simp [hyd]
            have d2 : decide (y < d) = false := by simp; omega
            rcases HAT.out with ⟨rfl, hno⟩ | ⟨m, hml, rfl, hmk, hmd, hno⟩
            · have HN : Hid (∀ j (h : j < l.length), j < k + 1 → d ≤ l[j].2) := hide (fun j h a => by
                rcases Nat.lt_or_ge j k with h9 | h9
                · exact HGE.out j h h9
                · have : j = k := by omega
                  subst this; rw [← HY.out]; omega)
              have HN2 : Hid (∃ (m : Nat) (hm : m < l.length), (k : Int) = m ∧ m < k + 1 ∧ l[m].2 = d ∧ ∀ j (h : j < l.length), j < k + 1 → j ≠ m → l[j].2 ≠ d) := hide ⟨k, hlt, rfl, by omega, by rw [← HY.out]; exact hyd, fun j h a b => hno j h (by omega)⟩
              clear hno hyd
              go_wp2
              go_roundw
              case rel => exact ⟨k + 1, k, by omega, by go_num, rfl, HN.out, .inr HN2.out, hkp.alloc⟩
              case measure => simp [intOf]; omega
            · have H1 : Hid (treeOf l d = (.nil, false)) := hide (treeOf_none l d HL0.out (by
                rintro ⟨x, x1, x2, x3⟩
                by_cases hxm : x = m
                · subst hxm
                  have := x3 k hlt (by omega); rw [hgvk.out] at this; omega
                · have := x3 m hml (fun e => hxm e.symm); rw [gv_eq l m hml] at this; omega))
              have d3 : (0 : Int) ≤ (m : Int) := by omega
              clear hno hyd hmd
              go_wp2
              go_ret2
              exact ⟨_, by rw [H1.out]; rfl, by rw [H1.out]; rfl, hkp.alloc.bel⟩
          · have d1 : (y == d) = false := by simp [hyd]
            by_cases hyl : y < d
            · have H1 : Hid (treeOf l d = (.nil, false)) := hide (treeOf_none l d HL0.out (by
                rintro ⟨x, x1, x2, x3⟩
                by_cases hxm : k = x
                · subst hxm; rw [hgvk.out] at x2; omega
                · have := x3 k hlt hxm; rw [hgvk.out] at this; omega))
              clear hyd
              go_wp2
              go_ret2
              exact ⟨_, by rw [H1.out]; rfl, by rw [H1.out]; rfl, hkp.alloc.bel⟩
            · have d2 : decide (y < d) = false := by simp; omega
              have HN : Hid (∀ j (h : j < l.length), j < k + 1 → d ≤ l[j].2) := hide (fun j h a => by
                rcases Nat.lt_or_ge j k with h9 | h9
                · exact HGE.out j h h9
                · have : j = k := by omega
                  subst this; rw [← HY.out]; omega)
              have HN2 : Hid ((a = -1 ∧ ∀ j (h : j < l.length), j < k + 1 → l[j].2 ≠ d) ∨ ∃ (m : Nat) (hm : m < l.length), a = m ∧ m < k + 1 ∧ l[m].2 = d ∧ ∀ j (h : j < l.length), j < k + 1 → j ≠ m → l[j].2 ≠ d) := hide (by
                have hk' : ∀ j (h : j < l.length), j < k + 1 → j = k ∨ j < k := fun j h a => by omega
                rcases HAT.out with ⟨e, hno⟩ | ⟨m, hml, e, hmk, hmd, hno⟩
                · refine .inl ⟨e, fun j h a => ?_⟩
                  rcases hk' j h a with rfl | h9
                  · rw [← HY.out]; exact hyd
                  · exact hno j h h9
                · refine .inr ⟨m, hml, e, by omega, hmd, fun j h a b => ?_⟩
                  rcases hk' j h a with rfl | h9
                  · rw [← HY.out]; exact hyd
                  · exact hno j h h9 b)
              clear hyd hyl
              go_wp2
              go_roundw
              case rel => exact ⟨k + 1, a, by omega, by go_num, rfl, HN.out, HN2.out, hkp.alloc⟩
              case measure => simp [intOf]; omega
        · rcases HAT.out with ⟨rfl, hno⟩ | ⟨m, hml, rfl, hmk, hmd, hno⟩
          · have H1 : Hid (treeOf l d = (.nil, false)) := hide (treeOf_none l d HL0.out (by
              rintro ⟨x, x1, x2, x3⟩
              rw [gv_eq l x x1] at x2
              exact hno x x1 (by omega) x2))
            clear hno
            go_wp2
            go_ret2
            exact ⟨_, by rw [H1.out]; rfl, by rw [H1.out]; rfl, hkp.bel⟩
          · have H1 : Hid (treeOf l d = (.node (gk l m) (treeOf (l.take m) (d + 1)).1 (treeOf (l.drop (m + 1)) (d + 1)).1, (treeOf (l.take m) (d + 1)).2 && (treeOf (l.drop (m + 1)) (d + 1)).2)) := hide (treeOf_node l d m hml (by rw [gv_eq l m hml, hmd]) (fun j h b => by
              rw [gv_eq l j h]
              have h5 := HGE.out j h (by omega)
              have h6 := hno j h (by omega) b
              omega))
            obtain ⟨b, o, rfl, _, c0, c1⟩ := (HR.out.kp hkp).pair hml
            have hgk := gk_eq l m hml
            obtain ⟨A2, hif⟩ : ∃ A2, (if c = m + 1 then some (⟨b, o, none⟩ : Addr) else some ⟨b, o + (m + 1) * 2, none⟩) = A2 := ⟨_, rfl⟩
            have HC1 := hide (fun W (h : Kp wr W) => IH.out (l.take m) (.slice (some ⟨b, o, none⟩) m c) (d + 1) W (by simp; omega) (by omega) (by omega) (by omega) (((HR.out.kp hkp).kp h).takeS (by omega)))
            have HC2 := hide (fun W (h : Kp wr W) => IH.out (l.drop (m + 1)) (.slice A2 (l.length - (m + 1)) (c - (m + 1))) (d + 1) W (by simp; omega) (by omega) (by omega) (by omega) (((HR.out.kp hkp).kp h).dropS (by omega) rfl hif))
            obtain ⟨P1, hP1⟩ : ∃ P, P = treeOf (l.take m) (d + 1) := ⟨_, rfl⟩
            obtain ⟨P2, hP2⟩ : ∃ P, P = treeOf (l.drop (m + 1)) (d + 1) := ⟨_, rfl⟩
            rw [← hP1] at HC1 H1
            rw [← hP2] at HC2 H1
            obtain ⟨t1, r1⟩ := P1
            obtain ⟨t2, r2⟩ := P2
            rw [hgk] at H1
            simp only at H1
            have HK := hide hkp
            have b1 : (m : Int) < (l.length : Int) := by omega
            have b2 : (m : Int) ≤ (c : Int) := by omega
            have b3 : (0 : Int) ≤ (m : Int) := by omega
            have b4 : (m : Int) + 1 ≤ (l.length : Int) := by omega
            have b5 : (0 : Int) ≤ (m : Int) + 1 := by omega
            have tn : ((m : Int) + 1).toNat = m + 1 := by omega
            have hw : IntKind.i64.wrap ((m : Int) + 1) = (m : Int) + 1 := IntWalk.i64_in _ (by omega)
            have hw2 : IntKind.i64.wrap (d + 1) = d + 1 := IntWalk.i64_in _ (by omega)
            clear hP1 hP2 hgk hno hmd
            go_wp2_with fail
            with_reducible refine (HC1.out _ (Kp.refl _)).mono ?_
            rintro e w1 ⟨p1, rfl, ht1, hb1⟩
            have kk1 := Kp.of hb1
            have HT1 := hide ht1
            clear ht1 hb1
            go_wp2_with fail
            with_reducible refine (HC2.out _ kk1).mono ?_
            rintro e w2 ⟨p2, rfl, ht2, hb2⟩
            have kk2 := Kp.of hb2
            have HT2 := hide ht2
            have c2 := (kk1.trans kk2).cell c0
            clear ht2 hb2 c0 c1
            cases r1 with
            | true =>
              go_wp2
              go_ret2
              exact ⟨_, by rw [H1.out]; rfl, by rw [H1.out]; exact TR.mk (HT1.out.kp kk2) HT2.out _, (HK.out.trans (kk1.trans kk2)).alloc.bel⟩
            | false =>
              go_wp2
              go_ret2
              exact ⟨_, by rw [H1.out]; rfl, by rw [H1.out]; exact TR.mk (HT1.out.kp kk2) HT2.out _, (HK.out.trans (kk1.trans kk2)).alloc.bel⟩
end Go.Proofs.Ytcpponjknmkfaaa
