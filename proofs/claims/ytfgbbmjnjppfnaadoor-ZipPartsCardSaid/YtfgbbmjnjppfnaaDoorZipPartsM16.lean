/-
  hedgref.TreeOf, hedgref.SpotsRight: what they answer. Conditions: the list reads as l (RD).
  Plain laws: hedgref.TreeOf makes of right spots the tree that shape.Parents reads, and these spots again; hedgref.SpotsRight: what it answers. Conditions: the list reads as l (RD).
  Slices of slices that are read (RDS). Conditions: none.
  hedgkeep.ok: what it answers. Conditions: the list reads as l (RD).
  hedgkeep.putAll, zipLives: what they answer. Conditions: the list reads as l (RD); the table of math/bits holds what it is laid with (DTb).
  hedgref.MapKeys, ZipTree, IsZipped, ZipRight: what they answer. Conditions: the lists read as they are named (RD, RDS) and are not longer than a million.
-/
import Derived.Test.YtfgbbmjnjppfnaaDoorZipPartsM14
import Derived.Test.YtfgbbmjnjppfnaaDoorZipPartsM3
import Derived.Test.YtfgbbmjnjppfnaaDoorZipPartsM4
import Derived.Test.YtfgbbmjnjppfnaaDoorZipPartsM1
import Derived.Test.YtfgbbmjnjppfnaaDoorZipPartsM12
import Derived.Test.YtfgbbmjnjppfnaaDoorZipPartsM11
import Derived.Test.YtfgbbmjnjppfnaaDoorZipPartsM13
import Derived.Test.YtfgbbmjnjppfnaaDoorZipPartsM15

namespace Go.Proofs.YtfgbbmjnjppfnaaDoor
open Go.ChangeShapes Go.WideShapes Go.ChangeAt Go.RowKit
set_option linter.unusedVariables false
set_option linter.unusedSimpArgs false

theorem topF_spec (l : List IP) (lo : Nat) : ∀ n k a al, lo ≤ a → a < k → (∀ j, lo ≤ j → j < k → gv l a ≤ gv l j) → (al = true → ∀ j, lo ≤ j → j < k → j ≠ a → gv l a < gv l j) → (al = false → ∃ j, lo ≤ j ∧ j < k ∧ j ≠ a ∧ gv l j = gv l a) →
    lo ≤ (topF l n k a al).1 ∧ (topF l n k a al).1 < k + n ∧ (∀ j, lo ≤ j → j < k + n → gv l (topF l n k a al).1 ≤ gv l j) ∧ ((topF l n k a al).2 = true → ∀ j, lo ≤ j → j < k + n → j ≠ (topF l n k a al).1 → gv l (topF l n k a al).1 < gv l j) ∧
      ((topF l n k a al).2 = false → ∃ j, lo ≤ j ∧ j < k + n ∧ j ≠ (topF l n k a al).1 ∧ gv l j = gv l (topF l n k a al).1)
  | 0, k, a, al, h0, h1, h2, h3, h4 => ⟨h0, by simpa [topF] using h1, by simpa [topF] using h2, by simpa [topF] using h3, by simpa [topF] using h4⟩
  | n + 1, k, a, al, h0, h1, h2, h3, h4 => by
    rw [topF, show k + (n + 1) = (k + 1) + n from by omega]
    split
    · rename_i hlt
      refine topF_spec l lo n (k + 1) k true (by omega) (by omega) (fun j j1 j2 => ?_) (fun _ j j1 j2 j3 => ?_) (by simp)
      · rcases Nat.lt_or_ge j k with h | h
        · have := h2 j j1 h; omega
        · rw [show j = k from by omega]; exact Int.le_refl _
      · have := h2 j j1 (by omega); omega
    · rename_i hnl
      split
      · rename_i heq
        refine topF_spec l lo n (k + 1) a false h0 (by omega) (fun j j1 j2 => ?_) (by simp) (fun _ => ⟨k, by omega, by omega, by omega, heq⟩)
        rcases Nat.lt_or_ge j k with h | h
        · exact h2 j j1 h
        · rw [show j = k from by omega]; omega
      · rename_i hne
        refine topF_spec l lo n (k + 1) a al h0 (by omega) (fun j j1 j2 => ?_) (fun hal j j1 j2 j3 => ?_) (fun hal => ?_)
        · rcases Nat.lt_or_ge j k with h | h
          · exact h2 j j1 h
          · rw [show j = k from by omega]; omega
        · rcases Nat.lt_or_ge j k with h | h
          · exact h3 hal j j1 h j3
          · rw [show j = k from by omega]; omega
        · obtain ⟨j, a1, a2, a3, a4⟩ := h4 hal
          exact ⟨j, a1, by omega, a3, a4⟩
theorem topS_min (l : List IP) (lo hi : Nat) (h : lo < hi) : (∀ j, lo ≤ j → j < hi → gv l (topS l lo hi).1 ≤ gv l j) ∧ ((topS l lo hi).2 = true → ∀ j, lo ≤ j → j < hi → j ≠ (topS l lo hi).1 → gv l (topS l lo hi).1 < gv l j) := by
  have := topF_spec l lo (hi - (lo + 1)) (lo + 1) lo true (Nat.le_refl _) (by omega) (fun j a b => by rw [show j = lo from by omega]; exact Int.le_refl _) (fun _ j a b c => by omega) (by simp)
  rw [show lo + 1 + (hi - (lo + 1)) = hi from by omega] at this
  exact ⟨this.2.2.1, this.2.2.2.1⟩

def treeOf (l : List IP) (d : Int) : T × Bool :=
  if h : l = [] then (.nil, true)
  else
    have := topS_in l 0 l.length (List.length_pos_iff.2 h)
    if (topS l 0 l.length).2 = true ∧ gv l (topS l 0 l.length).1 = d then
      (.node (gk l (topS l 0 l.length).1) (treeOf (l.take (topS l 0 l.length).1) (d + 1)).1 (treeOf (l.drop ((topS l 0 l.length).1 + 1)) (d + 1)).1,
        (treeOf (l.take (topS l 0 l.length).1) (d + 1)).2 && (treeOf (l.drop ((topS l 0 l.length).1 + 1)) (d + 1)).2)
    else (.nil, false)
termination_by l.length
decreasing_by all_goals simp <;> omega
theorem treeOf_nil (d : Int) : treeOf [] d = (.nil, true) := by rw [treeOf]; simp
theorem treeOf_node (l : List IP) (d : Int) (m : Nat) (hm : m < l.length) (h1 : gv l m = d) (h2 : ∀ j, j < l.length → j ≠ m → d < gv l j) : treeOf l d = (.node (gk l m) (treeOf (l.take m) (d + 1)).1 (treeOf (l.drop (m + 1)) (d + 1)).1, (treeOf (l.take m) (d + 1)).2 && (treeOf (l.drop (m + 1)) (d + 1)).2) := by
  have ht := topS_find l 0 l.length m (by omega) hm (fun j _ b c => by rw [h1]; exact h2 j b c)
  rw [treeOf, dif_neg (by rintro rfl; simp at hm)]
  simp only [ht, h1, and_self, if_true]
theorem treeOf_none (l : List IP) (d : Int) (h0 : l ≠ []) (h : ¬ ∃ m, m < l.length ∧ gv l m = d ∧ ∀ j, j < l.length → j ≠ m → d < gv l j) : treeOf l d = (.nil, false) := by
  have hpos := List.length_pos_iff.2 h0
  rw [treeOf, dif_neg h0]
  simp only
  rw [if_neg]
  rintro ⟨h1, h2⟩
  have ht := topS_in l 0 l.length hpos
  have hmn := (topS_min l 0 l.length hpos).2 h1
  exact h ⟨_, ht.2, h2, fun j a b => by have := hmn j (by omega) a b; omega⟩

def TrPost (r : T × Bool) (w : World) (e : Ending) (w' : World) : Prop := ∃ p, e = .returned (.tuple #[.pointer p, .bool r.2]) ∧ TR w' r.1 p ∧ Below w.heap.size w w'
def ToRel (l : List IP) (d : Int) (w : World) (av iv : Value) (wr : World) : Prop :=
  ∃ (k : Nat) (a : Int), k ≤ l.length ∧ iv = .int .i64 k ∧ av = .int .i64 a ∧ (∀ j (h : j < l.length), j < k → d ≤ l[j].2) ∧ ((a = -1 ∧ ∀ j (h : j < l.length), j < k → l[j].2 ≠ d) ∨ ∃ (m : Nat) (hm : m < l.length), a = m ∧ m < k ∧ l[m].2 = d ∧ ∀ j (h : j < l.length), j < k → j ≠ m → l[j].2 ≠ d) ∧ Kp w wr

set_option maxRecDepth 100000 in
set_option maxHeartbeats 4000000 in
theorem treeOf_any (n : Nat) : ∀ (l : List IP) (v : Value) (d : Int) (w : World), l.length ≤ n → n ≤ 100000 → 0 ≤ d → d + n ≤ 1000000 → RD w ePair v l → Calls Tryd.prog 59 #[v, .int .i64 d] w (TrPost (treeOf l d) w) := by
  induction n with
  | zero =>
    intro l v d w h1 h2 h3 h4 hr
    obtain rfl : l = [] := List.eq_nil_of_length_eq_zero (by omega)
    obtain ⟨A, c, rfl, hc, hm⟩ := hr.shape
    clear hr
    go_enter Tryd.func59, Tryd.ntmps59
    go_wp2
    go_ret2
    exact ⟨_, by rw [treeOf_nil]; rfl, by rw [treeOf_nil]; rfl, Below.refl _ _⟩
  | succ n ih =>
    intro l v d w h1 h2 h3 h4 hr
    have IH := hide ih
    clear ih
    obtain ⟨A, c, rfl, hc, hm⟩ := hr.shape
    by_cases hl0 : l = []
    · subst hl0
      clear hr
      go_enter Tryd.func59, Tryd.ntmps59
      go_wp2
      go_ret2
      exact ⟨_, by rw [treeOf_nil]; rfl, by rw [treeOf_nil]; rfl, Below.refl _ _⟩
    · have hpos : 0 < l.length := List.length_pos_iff.2 hl0
      have hle0 : ((l.length : Int) == 0) = false := by rw [beq_eq_false_iff_ne]; omega
      have HL0 := hide hl0
      have HR := hide hr
      clear hr hl0
      go_enter Tryd.func59, Tryd.ntmps59
      go_wp2
      go_loopw [6, 18] (ToRel l d w) (fun _ i _ => l.length - (intOf i).toNat)
      case atStart => exact ⟨0, -1, by omega, rfl, rfl, fun j h a => by omega, .inl ⟨rfl, fun j h a => by omega⟩, Kp.refl _⟩
      case round =>
        obtain ⟨k, a, hk, rfl, rfl, hge, hat, hkp⟩ := hrel
        have HGE := hide hge
        have HAT := hide hat
        clear hge hat
        by_cases hlt : k < l.length
        · obtain ⟨b, o, rfl, _, c0, c1⟩ := (HR.out.kp hkp).pair hlt
          obtain ⟨y, hy⟩ : ∃ y, y = l[k].2 := ⟨_, rfl⟩
          rw [← hy] at c1
          have HY := hide hy
          have hgvk : Hid (gv l k = y) := hide (by rw [gv_eq l k hlt, hy])
          clear hy
          by_cases hyd : y = d
          · have d1 : (y == d) = true := by simp [hyd]
            have d2 : decide (y < d) = false := by simp; omega
            rcases HAT.out with ⟨rfl, hno⟩ | ⟨m, hml, rfl, hmk, hmd, hno⟩
            · have HN : Hid (∀ j (h : j < l.length), j < k + 1 → d ≤ l[j].2) := hide (fun j h a => by
                rcases Nat.lt_or_ge j k with h9 | h9
                · exact HGE.out j h h9
                · have : j = k := by omega
                  subst this; rw [← HY.out]; omega)
              have HN2 : Hid (∃ (m : Nat) (hm : m < l.length), (k : Int) = m ∧ m < k + 1 ∧ l[m].2 = d ∧ ∀ j (h : j < l.length), j < k + 1 → j ≠ m → l[j].2 ≠ d) := hide ⟨k, hlt, rfl, by omega, by rw [← HY.out]; exact hyd, fun j h a b => hno j h (by omega)⟩
              clear hno hyd
              go_wp2
              go_roundw
              case rel => exact ⟨k + 1, k, by omega, by go_num, rfl, HN.out, .inr HN2.out, hkp.alloc⟩
              case measure => simp [intOf]; omega
            · have H1 : Hid (treeOf l d = (.nil, false)) := hide (treeOf_none l d HL0.out (by
                rintro ⟨x, x1, x2, x3⟩
                by_cases hxm : x = m
                · subst hxm
                  have := x3 k hlt (by omega); rw [hgvk.out] at this; omega
                · have := x3 m hml (fun e => hxm e.symm); rw [gv_eq l m hml] at this; omega))
              have d3 : (0 : Int) ≤ (m : Int) := by omega
              clear hno hyd hmd
              go_wp2
              go_ret2
              exact ⟨_, by rw [H1.out]; rfl, by rw [H1.out]; rfl, hkp.alloc.bel⟩
          · have d1 : (y == d) = false := by simp [hyd]
            by_cases hyl : y < d
            · have H1 : Hid (treeOf l d = (.nil, false)) := hide (treeOf_none l d HL0.out (by
                rintro ⟨x, x1, x2, x3⟩
                by_cases hxm : k = x
                · subst hxm; rw [hgvk.out] at x2; omega
                · have := x3 k hlt hxm; rw [hgvk.out] at this; omega))
              clear hyd
              go_wp2
              go_ret2
              exact ⟨_, by rw [H1.out]; rfl, by rw [H1.out]; rfl, hkp.alloc.bel⟩
            · have d2 : decide (y < d) = false := by simp; omega
              have HN : Hid (∀ j (h : j < l.length), j < k + 1 → d ≤ l[j].2) := hide (fun j h a => by
                rcases Nat.lt_or_ge j k with h9 | h9
                · exact HGE.out j h h9
                · have : j = k := by omega
                  subst this; rw [← HY.out]; omega)
              have HN2 : Hid ((a = -1 ∧ ∀ j (h : j < l.length), j < k + 1 → l[j].2 ≠ d) ∨ ∃ (m : Nat) (hm : m < l.length), a = m ∧ m < k + 1 ∧ l[m].2 = d ∧ ∀ j (h : j < l.length), j < k + 1 → j ≠ m → l[j].2 ≠ d) := hide (by
                have hk' : ∀ j (h : j < l.length), j < k + 1 → j = k ∨ j < k := fun j h a => by omega
                rcases HAT.out with ⟨e, hno⟩ | ⟨m, hml, e, hmk, hmd, hno⟩
                · refine .inl ⟨e, fun j h a => ?_⟩
                  rcases hk' j h a with rfl | h9
                  · rw [← HY.out]; exact hyd
                  · exact hno j h h9
                · refine .inr ⟨m, hml, e, by omega, hmd, fun j h a b => ?_⟩
                  rcases hk' j h a with rfl | h9
                  · rw [← HY.out]; exact hyd
                  · exact hno j h h9 b)
              clear hyd hyl
              go_wp2
              go_roundw
              case rel => exact ⟨k + 1, a, by omega, by go_num, rfl, HN.out, HN2.out, hkp.alloc⟩
              case measure => simp [intOf]; omega
        · rcases HAT.out with ⟨rfl, hno⟩ | ⟨m, hml, rfl, hmk, hmd, hno⟩
          · have H1 : Hid (treeOf l d = (.nil, false)) := hide (treeOf_none l d HL0.out (by
              rintro ⟨x, x1, x2, x3⟩
              rw [gv_eq l x x1] at x2
              exact hno x x1 (by omega) x2))
            clear hno
            go_wp2
            go_ret2
            exact ⟨_, by rw [H1.out]; rfl, by rw [H1.out]; rfl, hkp.bel⟩
          · have H1 : Hid (treeOf l d = (.node (gk l m) (treeOf (l.take m) (d + 1)).1 (treeOf (l.drop (m + 1)) (d + 1)).1, (treeOf (l.take m) (d + 1)).2 && (treeOf (l.drop (m + 1)) (d + 1)).2)) := hide (treeOf_node l d m hml (by rw [gv_eq l m hml, hmd]) (fun j h b => by
              rw [gv_eq l j h]
              have h5 := HGE.out j h (by omega)
              have h6 := hno j h (by omega) b
              omega))
            obtain ⟨b, o, rfl, _, c0, c1⟩ := (HR.out.kp hkp).pair hml
            have hgk := gk_eq l m hml
            obtain ⟨A2, hif⟩ : ∃ A2, (if c = m + 1 then some (⟨b, o, none⟩ : Addr) else some ⟨b, o + (m + 1) * 2, none⟩) = A2 := ⟨_, rfl⟩
            have HC1 := hide (fun W (h : Kp wr W) => IH.out (l.take m) (.slice (some ⟨b, o, none⟩) m c) (d + 1) W (by simp; omega) (by omega) (by omega) (by omega) (((HR.out.kp hkp).kp h).takeS (by omega)))
            have HC2 := hide (fun W (h : Kp wr W) => IH.out (l.drop (m + 1)) (.slice A2 (l.length - (m + 1)) (c - (m + 1))) (d + 1) W (by simp; omega) (by omega) (by omega) (by omega) (((HR.out.kp hkp).kp h).dropS (by omega) rfl hif))
            obtain ⟨P1, hP1⟩ : ∃ P, P = treeOf (l.take m) (d + 1) := ⟨_, rfl⟩
            obtain ⟨P2, hP2⟩ : ∃ P, P = treeOf (l.drop (m + 1)) (d + 1) := ⟨_, rfl⟩
            rw [← hP1] at HC1 H1
            rw [← hP2] at HC2 H1
            obtain ⟨t1, r1⟩ := P1
            obtain ⟨t2, r2⟩ := P2
            rw [hgk] at H1
            simp only at H1
            have HK := hide hkp
            have b1 : (m : Int) < (l.length : Int) := by omega
            have b2 : (m : Int) ≤ (c : Int) := by omega
            have b3 : (0 : Int) ≤ (m : Int) := by omega
            have b4 : (m : Int) + 1 ≤ (l.length : Int) := by omega
            have b5 : (0 : Int) ≤ (m : Int) + 1 := by omega
            have tn : ((m : Int) + 1).toNat = m + 1 := by omega
            have hw : IntKind.i64.wrap ((m : Int) + 1) = (m : Int) + 1 := IntWalk.i64_in _ (by omega)
            have hw2 : IntKind.i64.wrap (d + 1) = d + 1 := IntWalk.i64_in _ (by omega)
            clear hP1 hP2 hgk hno hmd
            go_wp2_with fail
            with_reducible refine (HC1.out _ (Kp.refl _)).mono ?_
            rintro e w1 ⟨p1, rfl, ht1, hb1⟩
            have kk1 := Kp.of hb1
            have HT1 := hide ht1
            clear ht1 hb1
            go_wp2_with fail
            with_reducible refine (HC2.out _ kk1).mono ?_
            rintro e w2 ⟨p2, rfl, ht2, hb2⟩
            have kk2 := Kp.of hb2
            have HT2 := hide ht2
            have c2 := (kk1.trans kk2).cell c0
            clear ht2 hb2 c0 c1
            cases r1 with
            | true =>
              go_wp2
              go_ret2
              exact ⟨_, by rw [H1.out]; rfl, by rw [H1.out]; exact TR.mk (HT1.out.kp kk2) HT2.out _, (HK.out.trans (kk1.trans kk2)).alloc.bel⟩
            | false =>
              go_wp2
              go_ret2
              exact ⟨_, by rw [H1.out]; rfl, by rw [H1.out]; exact TR.mk (HT1.out.kp kk2) HT2.out _, (HK.out.trans (kk1.trans kk2)).alloc.bel⟩
end Go.Proofs.YtfgbbmjnjppfnaaDoor
namespace Go.Proofs.YtfgbbmjnjppfnaaDoor
open Go.ChangeShapes Go.WideShapes Go.ChangeAt Go.RowKit
set_option linter.unusedVariables false
set_option linter.unusedSimpArgs false

def toT (l : List IP) : PT → T
  | .nil => .nil
  | .node p a b => .node (gk l p) (toT l a) (toT l b)
theorem seg_len (l : List IP) (lo hi : Nat) (h1 : lo ≤ hi) (h2 : hi ≤ l.length) : ((l.take hi).drop lo).length = hi - lo := by simp; omega
theorem seg_gv (l : List IP) (lo hi j : Nat) (h2 : hi ≤ l.length) (hj : j < hi - lo) : gv ((l.take hi).drop lo) j = gv l (lo + j) := by
  rw [gv_eq _ j (by rw [seg_len l lo hi (by omega) h2]; exact hj), gv_eq l (lo + j) (by omega)]; simp
theorem seg_gk (l : List IP) (lo hi j : Nat) (h2 : hi ≤ l.length) (hj : j < hi - lo) : gk ((l.take hi).drop lo) j = gk l (lo + j) := by
  rw [gk_eq _ j (by rw [seg_len l lo hi (by omega) h2]; exact hj), gk_eq l (lo + j) (by omega)]; simp
theorem seg_take (l : List IP) (lo hi m : Nat) (h : lo ≤ m) (hm : m ≤ hi) : ((l.take hi).drop lo).take (m - lo) = (l.take m).drop lo := by
  rw [List.take_drop, show lo + (m - lo) = m from by omega, List.take_take, Nat.min_eq_left hm]
theorem seg_drop (l : List IP) (lo hi m : Nat) (h : lo ≤ m) : ((l.take hi).drop lo).drop (m - lo + 1) = (l.take hi).drop (m + 1) := by
  rw [List.drop_drop]; congr 1; omega
theorem treeOf_seg (l : List IP) (lo hi : Nat) (d : Int) (h1 : lo ≤ hi) (h2 : hi ≤ l.length) :
    (treeOf ((l.take hi).drop lo) d).2 = (ptR l lo hi d).isSome ∧ ∀ t, ptR l lo hi d = some t → (treeOf ((l.take hi).drop lo) d).1 = toT l t := by
  by_cases hlt : lo < hi
  · have hsl := seg_len l lo hi h1 h2
    have htin := topS_in l lo hi hlt
    have hmin := topS_min l lo hi hlt
    by_cases hok : (topS l lo hi).2 = true ∧ gv l (topS l lo hi).1 = d
    · obtain ⟨m, hm⟩ : ∃ m, m = (topS l lo hi).1 := ⟨_, rfl⟩
      have htop : topS l lo hi = (m, true) := by rw [hm, ← hok.1]
      have hgd : gv l m = d := by rw [hm]; exact hok.2
      have hst := hmin.2 hok.1
      rw [← hm] at htin hst
      have hnode := treeOf_node ((l.take hi).drop lo) d (m - lo) (by omega) (by rw [seg_gv l lo hi _ h2 (by omega), show lo + (m - lo) = m from by omega, hgd]) (fun j j1 j2 => by
        rw [seg_gv l lo hi j h2 (by omega)]
        have := hst (lo + j) (by omega) (by omega) (by omega)
        omega)
      rw [seg_take l lo hi m (by omega) (by omega), seg_drop l lo hi m (by omega), seg_gk l lo hi _ h2 (by omega), show lo + (m - lo) = m from by omega] at hnode
      obtain ⟨a1, a2⟩ := treeOf_seg l lo m (d + 1) htin.1 (by omega)
      obtain ⟨b1, b2⟩ := treeOf_seg l (m + 1) hi (d + 1) (by omega) h2
      rw [hnode, ptR_node l lo hi d hlt m htop hgd]
      simp only
      rw [a1, b1]
      cases ha : ptR l lo m (d + 1) with
      | none => simp
      | some ta =>
        cases hb : ptR l (m + 1) hi (d + 1) with
        | none => simp
        | some tb =>
          refine ⟨rfl, fun t ht => ?_⟩
          simp only [Option.some.injEq] at ht
          subst ht
          rw [a2 ta ha, b2 tb hb]; rfl
    · rw [treeOf_none ((l.take hi).drop lo) d (by intro e; rw [e] at hsl; simp at hsl; omega) (by
        rintro ⟨x, x1, x2, x3⟩
        rw [hsl] at x1
        rw [seg_gv l lo hi x h2 x1] at x2
        have ht := topS_find l lo hi (lo + x) (by omega) (by omega) (fun j j1 j2 j3 => by
          have := x3 (j - lo) (by omega) (by omega)
          rw [seg_gv l lo hi _ h2 (by omega), show lo + (j - lo) = j from by omega] at this
          omega)
        exact hok ⟨by rw [ht], by rw [ht]; exact x2⟩), ptR_none l lo hi d hlt hok]
      exact ⟨rfl, fun t ht => by cases ht⟩
  · obtain rfl : lo = hi := by omega
    have : (l.take lo).drop lo = [] := by simp
    rw [this, treeOf_nil, ptR_nil l lo lo d hlt]
    exact ⟨rfl, fun t ht => by injection ht with ht; subst ht; rfl⟩
termination_by hi - lo
theorem treeOf_whole (l : List IP) : (treeOf l 0).2 = (ptR l 0 l.length 0).isSome ∧ ∀ t, ptR l 0 l.length 0 = some t → (treeOf l 0).1 = toT l t := by
  have := treeOf_seg l 0 l.length 0 (by omega) (Nat.le_refl _)
  simpa using this
theorem toT_spots (l : List IP) : ∀ (t : PT) (lo hi : Nat) (d : Int), t.At lo → hi = lo + t.size → hi ≤ l.length → (∀ j, j < t.size → some (gv l (lo + j)) = (t.deps d)[j]?) → (toT l t).spots d = (l.take hi).drop lo
  | .nil, lo, hi, d, _, h, _, _ => by simp [PT.size] at h; subst h; simp [toT, T.spots]
  | .node p a b, lo, hi, d, ⟨hp, ha, hb⟩, h, h3, hg => by
    simp only [PT.size] at h hg
    have hgp : gv l p = d := by
      have := hg a.size (by omega)
      rw [PT.deps_node, if_neg (by omega), if_pos rfl, ← hp] at this
      exact Option.some.inj this
    have ia := toT_spots l a lo p (d + 1) ha hp (by omega) (fun j hj => by
      have := hg j (by omega)
      rwa [PT.deps_node, if_pos hj] at this)
    have ib := toT_spots l b (p + 1) hi (d + 1) hb (by omega) h3 (fun j hj => by
      have := hg (a.size + 1 + j) (by omega)
      rw [PT.deps_node, if_neg (by omega), if_neg (by omega), show a.size + 1 + j - (a.size + 1) = j from by omega, show lo + (a.size + 1 + j) = p + 1 + j from by omega] at this
      exact this)
    rw [toT, T.spots, ia, ib, seg_split l lo p hi (by omega) (by omega) h3]
    have : ((gk l p, d) : IP) = l[p]'(by omega) := Prod.ext (gk_eq l p (by omega)) (by rw [← hgp]; exact gv_eq l p (by omega))
    rw [this]
theorem treeOf_spots (l : List IP) (h : (parOf l).2 = 0) : (treeOf l 0).1.spots 0 = l ∧ (treeOf l 0).2 = true := by
  obtain ⟨h1, h2, t, ht, _⟩ := parOf_len l h
  obtain ⟨h3, h4, h5⟩ := ptR_to l 0 l.length 0 t (by omega) ht
  obtain ⟨w1, w2⟩ := treeOf_whole l
  refine ⟨?_, by rw [w1, ht]; rfl⟩
  rw [w2 t ht, toT_spots l t 0 l.length 0 h3 (by omega) (Nat.le_refl _) h5]
  simp

set_option maxHeartbeats 2000000 in
theorem spotsRight_any (l : List IP) (v : Value) (w : World) (hr : RD w ePair v l) : Calls Tryd.prog 38 #[v] w (Ret (.int .i64 (parOf l).2) w) := by
  obtain ⟨A, c, rfl, hc, hm⟩ := hr.shape
  by_cases hlen : l.length > 200
  · have hp : Hid ((parOf l).2 = 2) := hide (by
      have : mapRight l = 2 := by rw [mapRight, if_pos hlen]
      rw [parOf, if_pos (by rw [this]; decide), this])
    go_enter Tryd.func38, Tryd.ntmps38
    go_wp2
    go_ret
    exact ⟨by rw [hp.out]; rfl, Below.refl _ _⟩
  · have hres : Hid (mapRight l = mrFrom (-1) l) := hide (by simp [mapRight, hlen])
    have h3f : Hid (mrFrom (-1) l = 3 → (parOf l).2 = 3) := hide (fun h => by rw [parOf, hres.out, h, if_pos (by decide)])
    have HTO := hide (fun W h => treeOf_any 1000 l (.slice A l.length c) 0 W (by omega) (by omega) (by omega) (by omega) h)
    have HPO : Hid (mrFrom (-1) l = 0 → (parOf l).2 = if (treeOf l 0).2 then 0 else 3) := hide (fun h => by
      rw [parOf, hres.out, h, if_neg (by decide), (treeOf_whole l).1]
      cases ptR l 0 l.length 0 <;> rfl)
    obtain ⟨P, hP⟩ : ∃ P, P = treeOf l 0 := ⟨_, rfl⟩
    rw [← hP] at HTO HPO
    obtain ⟨t, r⟩ := P
    have HR := hide hr
    clear hr hP
    go_enter Tryd.func38, Tryd.ntmps38
    go_wp2
    go_loopw [3, 13] (MRel l w) (fun a i wr => l.length - (intOf i).toNat)
    case atStart => exact ⟨0, -1, by omega, rfl, rfl, by omega, by omega, rfl, Below.refl _ _⟩
    case round =>
      obtain ⟨k, last, hk, rfl, rfl, h1, h2, hmr, hbel⟩ := hrel
      have hmr' := hide hmr
      clear hmr
      have hz := hbel.size
      by_cases hlt : k < l.length
      · obtain ⟨b, o, rfl, hb, c0, c1⟩ := (HR.out.below hbel).pair hlt
        have hd := mrFrom_drop l k hlt last
        rcases btw_cases l[k].1 (last + 1) 1000000 with ⟨hB, hb3, hb4⟩ | ⟨hB, hb3⟩
        · rw [hB, if_pos rfl] at hd
          have hd' := hide hd
          clear hd
          have hB' := hide hB
          clear hB
          go_wp2_with (go_at_call 12; refine (between_to _ _ _ true _ hB'.out).mono ?_; rintro e w' ⟨rfl, rfl⟩)
          go_roundw
          case rel => exact ⟨k+1, l[k].1, by omega, by go_num, rfl, by omega, by omega, by rw [← hd'.out, hmr'.out], hbel.alloc hbel.size _⟩
          case measure => simp [intOf]; omega
        · rw [hB, if_neg (by simp)] at hd
          have HP := hide (h3f.out (by rw [← hmr'.out, hd]))
          clear hd
          have hB' := hide hB
          clear hB hb3
          go_wp2_with (go_at_call 12; refine (between_to _ _ _ false _ hB'.out).mono ?_; rintro e w' ⟨rfl, rfl⟩)
          go_ret
          exact ⟨by rw [HP.out]; rfl, hbel.alloc hbel.size _⟩
      · have HP := hide (HPO.out (by rw [← hmr'.out, mrFrom_end _ _ hlt]))
        have hkp : Kp w wr := hbel
        cases r with
        | true =>
          go_wp2_with fail
          refine (HTO.out _ (HR.out.kp hkp)).mono ?_
          rintro e w1 ⟨p1, rfl, _, hb1⟩
          go_wp2
          go_ret
          exact ⟨by rw [HP.out]; rfl, (hkp.trans hb1).bel⟩
        | false =>
          go_wp2_with fail
          refine (HTO.out _ (HR.out.kp hkp)).mono ?_
          rintro e w1 ⟨p1, rfl, _, hb1⟩
          go_wp2
          go_ret
          exact ⟨by rw [HP.out]; rfl, (hkp.trans hb1).bel⟩
end Go.Proofs.YtfgbbmjnjppfnaaDoor
namespace Go.Proofs.YtfgbbmjnjppfnaaDoor
open Go.ChangeShapes Go.WideShapes Go.ChangeAt Go.RowKit
set_option linter.unusedVariables false
set_option linter.unusedSimpArgs false

/-- A slice of slices. -/
def RDS {α : Type} (w : World) (E : Enc α) (v : Value) (ls : List (List α)) : Prop :=
  ∃ A c, v = .slice A ls.length c ∧ ls.length ≤ c ∧ c ≤ maxLen ∧ (0 < ls.length → ∃ b o, A = some ⟨b, o, none⟩ ∧ b < w.heap.size ∧
    ∀ k (h : k < ls.length), ∃ u, w.cell? ⟨b, o + k, none⟩ = some u ∧ RD w E u ls[k])
section
variable {α : Type} {w w' : World} {E : Enc α} {v : Value} {ls : List (List α)}
theorem RDS.shape (h : RDS w E v ls) : ∃ A c, v = .slice A ls.length c ∧ ls.length ≤ c ∧ c ≤ 9223372036854775807 := by
  obtain ⟨A, c, rfl, h1, h2, h3⟩ := h
  exact ⟨A, c, rfl, h1, by unfold maxLen at h2; omega⟩
theorem RDS.at_ {A : Option Addr} {n c : Nat} (h : RDS w E (.slice A n c) ls) {k : Nat} (hk : k < ls.length) :
    ∃ b o u, A = some ⟨b, o, none⟩ ∧ b < w.heap.size ∧ w.cell? ⟨b, o + k, none⟩ = some u ∧ RD w E u ls[k] := by
  obtain ⟨A', c', e, h1, h2, h3⟩ := h
  injection e with e1 e2 e3
  subst e1
  obtain ⟨b, o, rfl, hb, hc⟩ := h3 (by omega)
  obtain ⟨u, h4, h5⟩ := hc k hk
  exact ⟨b, o, u, rfl, hb, h4, h5⟩
theorem RDS.kp (h : RDS w E v ls) (hb : Kp w w') : RDS w' E v ls := by
  obtain ⟨A, c, rfl, h1, h2, h3⟩ := h
  refine ⟨A, c, rfl, h1, h2, fun h0 => ?_⟩
  obtain ⟨b, o, rfl, hb', hc⟩ := h3 h0
  refine ⟨b, o, rfl, Nat.lt_of_lt_of_le hb' hb.size, fun k hk => ?_⟩
  obtain ⟨u, h4, h5⟩ := hc k hk
  exact ⟨u, hb.cell h4, h5.kp hb⟩
end
theorem RDS.new2 {α : Type} {w : World} {E : Enc α} {a b : List α} {va vb : Value} {t : TypeId} {g : Nat} (hg : w.heap.size = g) (ha : RD w E va a) (hb : RD w E vb b) : RDS (w.alloc (.cells #[va, vb] t)) E (.slice (some ⟨g, 0, none⟩) 2 2) [a, b] := by
  subst hg
  have hk : Kp w (w.alloc (.cells #[va, vb] t)) := (Kp.refl w).alloc
  refine ⟨_, _, rfl, Nat.le_refl _, by simp [maxLen], fun _ => ⟨w.heap.size, 0, rfl, by simp, fun k h => ?_⟩⟩
  have hc := fun i => cell_of_row _ _ i _ t (0, 0) (heap_alloc_new w (.cells #[va, vb] t))
  match k, h with
  | 0, _ => exact ⟨va, hc 0, ha.kp hk⟩
  | 1, _ => exact ⟨vb, hc 1, hb.kp hk⟩
theorem RDS.new1 {α : Type} {w : World} {E : Enc α} {a : List α} {va : Value} {t : TypeId} {g : Nat} (hg : w.heap.size = g) (ha : RD w E va a) : RDS (w.alloc (.cells #[va] t)) E (.slice (some ⟨g, 0, none⟩) 1 1) [a] := by
  subst hg
  have hk : Kp w (w.alloc (.cells #[va] t)) := (Kp.refl w).alloc
  refine ⟨_, _, rfl, Nat.le_refl _, by simp [maxLen], fun _ => ⟨w.heap.size, 0, rfl, by simp, fun k h => ?_⟩⟩
  have hc := fun i => cell_of_row _ _ i _ t (0, 0) (heap_alloc_new w (.cells #[va] t))
  match k, h with
  | 0, _ => exact ⟨va, hc 0, ha.kp hk⟩
end Go.Proofs.YtfgbbmjnjppfnaaDoor
namespace Go.Proofs.YtfgbbmjnjppfnaaDoor
open Go.ChangeShapes Go.WideShapes Go.ChangeAt Go.RowKit
set_option linter.unusedVariables false
set_option linter.unusedSimpArgs false

def okL (l : List Int) : Bool := l.all fun e => e == 0
def OkRel (l : List Int) (w : World) (i : Value) (wr : World) : Prop := ∃ k : Nat, k ≤ l.length ∧ i = .int .i64 k ∧ okL (l.drop k) = okL l ∧ w = wr

set_option maxHeartbeats 400000 in
theorem ok_any (l : List Int) (v : Value) (w : World) (hr : RD w eInt v l) : Calls Tryd.prog 27 #[v] w fun e w' => e = .returned (.bool (okL l)) ∧ w = w' := by
  obtain ⟨A, c, rfl, hc, hm⟩ := hr.shape
  have HR := hide hr
  clear hr
  go_enter Tryd.func27, Tryd.ntmps27
  go_wp2
  go_loopw [7] (OkRel l w) (fun i _ => l.length - (intOf i).toNat)
  case atStart => exact ⟨0, by omega, rfl, rfl, rfl⟩
  case round =>
    obtain ⟨k, hk, rfl, hok, rfl⟩ := hrel
    have HO := hide hok
    clear hok
    by_cases hlt : k < l.length
    · obtain ⟨b, o, rfl, hb, c0⟩ := HR.out.int hlt
      have hd : Hid (okL (l.drop k) = (l[k] == 0 && okL (l.drop (k + 1)))) := hide (by rw [List.drop_eq_getElem_cons hlt]; rfl)
      by_cases h0 : l[k] = 0
      · have hn : (l[k] != 0) = false := by simp [h0]
        have hst : Hid (okL (l.drop (k + 1)) = okL l) := hide (by rw [← HO.out, hd.out, h0]; rfl)
        clear h0
        go_wp2
        go_roundw
        case rel => exact ⟨k + 1, by omega, by go_num, hst.out, rfl⟩
        case measure => simp [intOf]; omega
      · have hn : (l[k] != 0) = true := by simp [h0]
        have hst : Hid (okL l = false) := hide (by rw [← HO.out, hd.out]; simp [h0])
        clear h0
        go_wp2
        go_ret
        exact ⟨by rw [hst.out]; rfl, rfl⟩
    · have hst : Hid (okL l = true) := hide (by rw [← HO.out, List.drop_of_length_le (by omega)]; rfl)
      go_wp2
      go_ret
      exact ⟨by rw [hst.out]; rfl, rfl⟩
end Go.Proofs.YtfgbbmjnjppfnaaDoor
namespace Go.Proofs.YtfgbbmjnjppfnaaDoor
open Go.ChangeShapes Go.WideShapes Go.ChangeAt Go.RowKit
set_option linter.unusedVariables false
set_option linter.unusedSimpArgs false

def pO (k : Int) : O3 := (1, k, 0)
theorem info_opZ : (Tryd.prog.info? 58).map (fun i => (i.zero, i.size, i.bytes)) = some (some (.agg #[.int .i64 0, .int .i64 0, .int .i64 0]), 3, 24) := by kernel_rfl
theorem row_opZ : Row Tryd.prog 37 58 eOp 24 := row_of info_opZ Tryd.underlying37 rfl rfl (by decide)
def PaRel (l : List Int) (w : World) (ov iv : Value) (wr : World) : Prop := ∃ k : Nat, k ≤ l.length ∧ iv = .int .i64 k ∧ OW wr w.heap.size 58 eOp ov ((l.take k).map pO) ∧ Kp w wr
set_option maxRecDepth 100000 in
set_option maxHeartbeats 1000000 in
theorem putAll_any (l : List Int) (v : Value) (w : World) (hr : RD w eInt v l) (hn : l.length ≤ 1000000) : Calls Tryd.prog 26 #[v] w (RetOW 58 eOp (l.map pO) w) := by
  obtain ⟨A, c, rfl, hc, hm⟩ := hr.shape
  have HR := hide hr
  clear hr
  go_enter Tryd.func26, Tryd.ntmps26
  go_wp2
  go_loopw [3, 8] (PaRel l w) (fun _ i _ => l.length - (intOf i).toNat)
  case atStart => exact ⟨0, by omega, rfl, OW.nil, Kp.refl _⟩
  case round =>
    obtain ⟨k, hk, rfl, ho, hkp⟩ := hrel
    have hi := ho.hi
    have HO := hide ho
    by_cases hlt : k < l.length
    · obtain ⟨b, o, rfl, _, x0⟩ := (HR.out.kp hkp).int hlt
      obtain ⟨y, hy⟩ : ∃ y, y = l[k] := ⟨_, rfl⟩
      rw [← hy] at x0
      have HN : Hid ((l.take k).map pO ++ [((1, y, 0) : O3)] = (l.take (k + 1)).map pO) := hide (by rw [List.take_succ_eq_append_getElem hlt, List.map_append, hy]; rfl)
      have HM1 : Hid ((((l.take k).map pO).length + [((1, y, 0) : O3)].length) * 24 ≤ 140737488355328) := hide (by simp; omega)
      have HM2 : Hid (((l.take k).map pO).length + [((1, y, 0) : O3)].length ≤ maxLen) := hide (by simp [maxLen]; omega)
      clear hy ho
      go_wp2_with (at_builtin; (with_reducible refine list_app (B := w.heap.size) (l := (l.take k).map pO) (m := [((1, y, 0) : O3)]) row_opZ u3 ?_ (.tmp 12) (.tmp 15) ?_ ?_ ?_ ?_ HM1.out HM2.out ?_ ?_); (with_reducible rfl); (with_reducible rfl); rfl; (exact HO.out.alloc _); (show RD _ _ (.slice (some ⟨_, 0, none⟩) 1 1) _; (focus ((repeat (first | (with_reducible assumption) | exact RD.new1 _ rfl | (refine RD.new1e _ ?_ rfl; simp; done) | (with_reducible apply RD.alloc) | (with_reducible apply RD.drew) | (with_reducible apply RD.drewN) | ((with_reducible apply RD.belowR); (with_reducible assumption)))); done))); (have := hkp.size; simp; omega); intro v3 w3 ho3 hg3 hat3)
      go_roundw
      case rel => exact ⟨k + 1, by omega, by go_num, by rw [← HN.out]; exact ho3, Kp.app hg3 hkp.alloc hi⟩
      case measure => simp [intOf]; omega
    · have hkl : Hid ((l.take k).map pO = l.map pO) := hide (by rw [List.take_of_length_le (by omega)])
      clear ho
      go_wp2
      go_ret
      exact ⟨_, rfl, by rw [← hkl.out]; exact HO.out, hkp.bel⟩

theorem zipLives_run : zipRun [(1, 0, 0), (1, 5, 0)] = ([(0, 0), (5, 1)], [⟨0, 0, 0, false⟩, ⟨0, 0, 0, false⟩], 0) := by decide +kernel
theorem zipLives_split : splitZ [(0, 0), (5, 1)] 5 = ([(0, 0)], [(5, 0)], 0) := by decide +kernel
theorem zipLives_ra : readZ [(0, 0)] = (.node 0 .nil .nil, 0) := by kernel_rfl
theorem zipLives_rb : readZ [(5, 0)] = (.node 5 .nil .nil, 0) := by kernel_rfl
theorem zipLives_ov : ov (zk 0) (zk 5) = true := by decide +kernel
theorem zipLives_merge : mergeZ [(0, 0)] [(5, 0)] = ([(0, 0), (5, 1)], 0) := by
  rw [mergeZ, if_neg (by decide +kernel), if_neg (by decide +kernel), zipLives_ra, zipLives_rb, if_neg (by decide), if_neg (by decide)]
  simp only [mapZ]
  rw [zipM_node, if_pos zipLives_ov, zipM]
  rfl
theorem okL_ok3Z : okL [0, 0, 0] = true := rfl
set_option maxRecDepth 100000 in
set_option maxHeartbeats 4000000 in
theorem zipLives_any (w : World) (hdb : DTb w) : Calls Tryd.prog 21 #[] w (Ret (.bool true) w) := by
  have H0 := hide (fun W v h => putAll_any [0, 5] v W h (by simp))
  have H1 := hide (fun W v h hd => zipRun_any [(1, 0, 0), (1, 5, 0)] v W h hd)
  have H2 := hide (fun W v h hd => zipSplit_any [(0, 0), (5, 1)] 5 v W h hd)
  have H3 := hide (fun W v u h1 h2 hd => zipMerge_any [(0, 0)] [(5, 0)] v u W h1 h2 hd)
  rw [show [0, 5].map pO = [((1, 0, 0) : O3), (1, 5, 0)] from rfl] at H0
  rw [zipLives_run] at H1
  rw [zipLives_split] at H2
  rw [zipLives_merge] at H3
  have HDB := hide hdb
  clear hdb
  go_enter Tryd.func21, Tryd.ntmps21
  go_wp2_with fail
  refine (H0.out _ _ (RD.block (l := [0, 5]) (heap_alloc_new w _) rfl (by simp [maxLen]))).mono ?_
  rintro e w1 ⟨v1, rfl, ho1, hb1⟩
  have kk1 : Kp w w1 := (Kp.refl w).alloc.trans (Kp.of hb1)
  have HR1 := hide ho1.rd
  clear ho1 hb1
  go_wp2_with fail
  with_reducible refine (H1.out _ _ HR1.out (HDB.out.kp kk1)).mono ?_
  rintro e w2 ⟨v2, u2, rfl, hr2, hu2, hb2⟩
  have kk2 : Kp w1 w2 := Kp.of hb2
  have HR2 := hide hr2
  obtain ⟨A2, c2, rfl, _, _⟩ := hu2.shape
  clear hr2 hu2 hb2
  go_wp2_with fail
  with_reducible refine (H2.out _ _ HR2.out (HDB.out.kp (kk1.trans kk2))).mono ?_
  rintro e w3 ⟨v3, u3, rfl, hr3, hu3, hb3⟩
  have kk3 : Kp w2 w3 := Kp.of hb3
  have HR3 := hide hr3
  have HU3 := hide hu3
  clear hr3 hu3 hb3
  go_wp2_with fail
  with_reducible refine (H3.out _ _ _ HR3.out HU3.out (HDB.out.kp (kk1.trans (kk2.trans kk3)))).mono ?_
  rintro e w4 ⟨v4, rfl, hr4, hb4⟩
  have kk4 : Kp w3 w4 := Kp.of hb4
  have HR4 := hide hr4
  clear hr4 hb4
  go_wp2_with fail
  refine (ok_any [0, 0, 0] _ _ (RD.block (l := [0, 0, 0]) (heap_alloc_new w4 _) rfl (by simp [maxLen]))).mono ?_
  rintro e w5 ⟨rfl, hw5⟩
  have kk5 : Kp w4 w5 := by rw [← hw5]; exact (Kp.refl w4).alloc
  clear hw5
  have hok := okL_ok3Z
  go_wp2_with fail
  refine (eqSpots_to _ _ true _ _ _ ((HR2.out.kp (kk3.trans (kk4.trans kk5))).alloc _) (RD.block (l := [(0, 0), (5, 1)]) (heap_alloc_new w5 _) rfl (by simp [maxLen])) (by decide)).mono ?_
  rintro e w6 ⟨rfl, hb6⟩
  have kk6 : Kp w5 w6 := (Kp.refl w5).alloc.trans (Kp.of hb6)
  clear hb6
  go_wp2_with fail
  refine (eqSpots_to _ _ true _ _ _ ((HR3.out.kp (kk4.trans (kk5.trans kk6))).alloc _) (RD.block (l := [(0, 0)]) (heap_alloc_new w6 _) rfl (by simp [maxLen])) (by decide)).mono ?_
  rintro e w7 ⟨rfl, hb7⟩
  have kk7 : Kp w6 w7 := (Kp.refl w6).alloc.trans (Kp.of hb7)
  clear hb7
  go_wp2_with fail
  refine (eqSpots_to _ _ true _ _ _ ((HU3.out.kp (kk4.trans (kk5.trans (kk6.trans kk7)))).alloc _) (RD.block (l := [(5, 0)]) (heap_alloc_new w7 _) rfl (by simp [maxLen])) (by decide)).mono ?_
  rintro e w8 ⟨rfl, hb8⟩
  have kk8 : Kp w7 w8 := (Kp.refl w7).alloc.trans (Kp.of hb8)
  clear hb8
  go_wp2_with fail
  refine (eqSpots_to _ _ true _ _ _ (HR4.out.kp (kk5.trans (kk6.trans (kk7.trans kk8)))) (HR2.out.kp (kk3.trans (kk4.trans (kk5.trans (kk6.trans (kk7.trans kk8)))))) (by decide)).mono ?_
  rintro e w9 ⟨rfl, hb9⟩
  have kk9 : Kp w8 w9 := Kp.of hb9
  clear hb9
  go_wp2
  go_ret
  exact ⟨rfl, (kk1.trans (kk2.trans (kk3.trans (kk4.trans (kk5.trans (kk6.trans (kk7.trans (kk8.trans kk9)))))))).bel⟩
end Go.Proofs.YtfgbbmjnjppfnaaDoor
namespace Go.Proofs.YtfgbbmjnjppfnaaDoor
open Go.ChangeShapes Go.WideShapes Go.ChangeAt Go.RowKit
set_option linter.unusedVariables false
set_option linter.unusedSimpArgs false

def MkRel (l : List IP) (w : World) (ov iv : Value) (wr : World) : Prop := ∃ k : Nat, k ≤ l.length ∧ iv = .int .i64 k ∧ OW wr w.heap.size 3 eInt ov ((l.take k).map Prod.fst) ∧ Kp w wr
set_option maxRecDepth 100000 in
set_option maxHeartbeats 1000000 in
theorem mapKeys_any (l : List IP) (v : Value) (w : World) (hr : RD w ePair v l) (hn : l.length ≤ 1000000) : Calls Tryd.prog 19 #[v] w (RetOW 3 eInt (l.map Prod.fst) w) := by
  obtain ⟨A, c, rfl, hc, hm⟩ := hr.shape
  have HR := hide hr
  clear hr
  go_enter Tryd.func19, Tryd.ntmps19
  go_wp2
  go_loopw [3, 8] (MkRel l w) (fun _ i _ => l.length - (intOf i).toNat)
  case atStart => exact ⟨0, by omega, rfl, OW.nil, Kp.refl _⟩
  case round =>
    obtain ⟨k, hk, rfl, ho, hkp⟩ := hrel
    have hi := ho.hi
    have HO := hide ho
    obtain ⟨u, hu⟩ : ∃ u, u = u3 := ⟨_, rfl⟩
    by_cases hlt : k < l.length
    · obtain ⟨b, o, rfl, _, x0, x1⟩ := (HR.out.kp hkp).pair hlt
      obtain ⟨y, hy⟩ : ∃ y, y = l[k].1 := ⟨_, rfl⟩
      rw [← hy] at x0
      have HN : Hid ((l.take k).map Prod.fst ++ [y] = (l.take (k + 1)).map Prod.fst) := hide (by rw [List.take_succ_eq_append_getElem hlt, List.map_append, hy]; rfl)
      have HM1 : Hid ((((l.take k).map Prod.fst).length + [y].length) * 8 ≤ 140737488355328) := hide (by simp; omega)
      have HM2 : Hid (((l.take k).map Prod.fst).length + [y].length ≤ maxLen) := hide (by simp [maxLen]; omega)
      clear hy ho hu
      go_wp2_with (at_builtin; (with_reducible refine list_app (B := w.heap.size) (l := (l.take k).map Prod.fst) (m := [y]) row_int u3 ?_ (.tmp 12) (.tmp 15) ?_ ?_ ?_ ?_ HM1.out HM2.out ?_ ?_); (with_reducible rfl); (with_reducible rfl); rfl; ((with_reducible apply OW.alloc); (with_reducible apply OW.alloc); exact HO.out); (show RD _ _ (.slice (some ⟨_, 0, none⟩) 1 1) _; (focus ((repeat (first | (with_reducible assumption) | exact RD.new1 _ rfl | (refine RD.new1e _ ?_ rfl; simp; done) | (with_reducible apply RD.alloc) | (with_reducible apply RD.drew) | (with_reducible apply RD.drewN) | ((with_reducible apply RD.belowR); (with_reducible assumption)))); done))); (have := hkp.size; simp; omega); intro v3 w3 ho3 hg3 hat3)
      go_roundw
      case rel => exact ⟨k + 1, by omega, by go_num, by rw [← HN.out]; exact ho3, Kp.app hg3 hkp.alloc.alloc hi⟩
      case measure => simp [intOf]; omega
    · have hkl : Hid ((l.take k).map Prod.fst = l.map Prod.fst) := hide (by rw [List.take_of_length_le (by omega)])
      clear ho hu
      go_wp2
      go_ret
      exact ⟨_, rfl, by rw [← hkl.out]; exact HO.out, hkp.bel⟩

def ZtRel (ks : List Int) (w : World) (ov iv : Value) (wr : World) : Prop := ∃ k : Nat, k ≤ ks.length ∧ iv = .int .i64 k ∧ OW wr w.heap.size 62 ePair ov ((ks.take k).map zk) ∧ Kp w wr
set_option maxRecDepth 100000 in
set_option maxHeartbeats 2000000 in
theorem zipTree_any (ks : List Int) (v : Value) (w : World) (hr : RD w eInt v ks) (hn : ks.length ≤ 1000000) : Calls Tryd.prog 16 #[v] w (RetTR (heapTree (ks.map zk)) w) := by
  obtain ⟨A, c, rfl, hc, hm⟩ := hr.shape
  have HR := hide hr
  have HHT := hide (fun v W h => heapTree_any 1000000 (ks.map zk) v W (by simpa using hn) (by omega) h)
  clear hr
  go_enter Tryd.func16, Tryd.ntmps16
  go_wp2
  go_loopw [3, 8] (ZtRel ks w) (fun _ i _ => ks.length - (intOf i).toNat)
  case atStart => exact ⟨0, by omega, rfl, OW.nil, Kp.refl _⟩
  case round =>
    obtain ⟨k, hk, rfl, ho, hkp⟩ := hrel
    have hi := ho.hi
    have HO := hide ho
    obtain ⟨A6, N6, c6, rfl⟩ := ho.rd.slice
    by_cases hlt : k < ks.length
    · obtain ⟨b, o, rfl, _, x0⟩ := (HR.out.kp hkp).int hlt
      obtain ⟨y, hy⟩ : ∃ y, y = ks[k] := ⟨_, rfl⟩
      obtain ⟨ht, hht⟩ : ∃ ht, ht = hgtF y := ⟨_, rfl⟩
      rw [← hy] at x0
      have HHG := hide (fun W => heightR_any y W)
      rw [← hht] at HHG
      obtain ⟨L, hL⟩ : ∃ L, L = (ks.take k).map zk := ⟨_, rfl⟩
      have HN : Hid (L ++ [((y, ht) : IP)] = (ks.take (k + 1)).map zk) := hide (by rw [List.take_succ_eq_append_getElem hlt, List.map_append, hL, hht, hy]; rfl)
      have hLl : L.length ≤ 1000000 := by rw [hL]; simp; omega
      rw [← hL] at HO
      have HM1 : Hid ((L.length + [((y, ht) : IP)].length) * 16 ≤ 140737488355328) := hide (by simp; omega)
      have HM2 : Hid (L.length + [((y, ht) : IP)].length ≤ maxLen) := hide (by simp [maxLen]; omega)
      have hoL : OW wr w.heap.size 62 ePair (.slice A6 N6 c6) L := HO.out
      have K11 := Kp.refl wr
      clear ho hy hht hL
      go_wp2_with fail
      with_reducible refine (HHG.out _).mono ?_
      rintro e w5 ⟨rfl, rfl⟩
      go_wp2_with (at_builtin; (with_reducible refine list_app (B := w.heap.size) (l := L) (m := [((y, ht) : IP)]) row_pair (.slice A6 N6 c6) ?_ (.tmp 12) (.tmp 17) ?_ ?_ ?_ ?_ HM1.out HM2.out ?_ ?_); (with_reducible rfl); (with_reducible rfl); rfl; (exact HO.out.alloc _); (show RD _ _ (.slice (some ⟨_, 0, none⟩) 1 1) _; (focus ((repeat (first | (with_reducible assumption) | exact RD.new1 _ rfl | (refine RD.new1e _ ?_ rfl; simp; done) | (with_reducible apply RD.alloc) | (with_reducible apply RD.drew) | (with_reducible apply RD.drewN) | ((with_reducible apply RD.belowR); (with_reducible assumption)))); done))); (have := hkp.size; simp; omega); intro v7 w7 ho7 hg7 hat7)
      go_roundw
      case rel => exact ⟨k + 1, by omega, by go_num, by rw [← HN.out]; exact ho7, Kp.app hg7 hkp.alloc hi⟩
      case measure => simp [intOf]; omega
    · have HT : Hid (RD wr ePair (.slice A6 N6 c6) (ks.map zk)) := hide (by have := ho.rd; rwa [List.take_of_length_le (by omega)] at this)
      clear ho
      go_wp2_with fail
      with_reducible refine (HHT.out _ _ HT.out).mono ?_
      rintro e w3 ⟨p3, rfl, ht3, hb3⟩
      have kk3 : Kp wr w3 := Kp.of hb3
      go_wp2
      go_ret
      exact ⟨_, rfl, ht3, (hkp.trans kk3).bel⟩

def zipOk (l : List IP) : Bool := decide (l = (heapTree ((l.map Prod.fst).map zk)).spots 0)
set_option maxRecDepth 100000 in
set_option maxHeartbeats 2000000 in
theorem isZipped_any (l : List IP) (v : Value) (w : World) (hr : RD w ePair v l) (hn : l.length ≤ 1000) : Calls Tryd.prog 39 #[v] w (Ret (.bool (zipOk l)) w) := by
  obtain ⟨A, c, rfl, hc, hm⟩ := hr.shape
  have HR := hide hr
  have HT := hide (fun v W h => zipTree_any (l.map Prod.fst) v W h (by simp; omega))
  have HS : Hid ((0 : Int) + (heapTree ((l.map Prod.fst).map zk)).size ≤ 1073741824) := hide (by rw [heapTree_size]; simp; omega)
  have HZ : Hid (zipOk l = decide (l = (heapTree ((l.map Prod.fst).map zk)).spots 0)) := hide rfl
  obtain ⟨H, hH⟩ : ∃ H, H = heapTree ((l.map Prod.fst).map zk) := ⟨_, rfl⟩
  rw [← hH] at HT HS HZ
  clear hr hH
  go_enter Tryd.func39, Tryd.ntmps39
  go_wp2_with fail
  with_reducible refine (spotKeys_any l _ _ HR.out (by omega)).mono ?_
  rintro e w1 ⟨v1, rfl, ho1, hb1⟩
  have kk1 : Kp w w1 := Kp.of hb1
  have HO1 := hide ho1.rd
  clear ho1 hb1
  go_wp2_with fail
  with_reducible refine (HT.out _ _ HO1.out).mono ?_
  rintro e w2 ⟨p2, rfl, ht2, hb2⟩
  have kk2 : Kp w1 w2 := Kp.of hb2
  have HT2 := hide ht2
  clear ht2 hb2
  go_wp2_with fail
  with_reducible refine (spots_any H p2 0 _ HT2.out (by omega) HS.out).mono ?_
  rintro e w3 ⟨v3, rfl, ho3, hb3⟩
  have kk3 : Kp w2 w3 := Kp.of hb3
  have HO3 := hide ho3.rd
  clear ho3 hb3
  go_wp2_with fail
  with_reducible refine (sameSpots_to l (H.spots 0) (zipOk l) _ _ _ (HR.out.kp (kk1.trans (kk2.trans kk3))) HO3.out (by rw [HZ.out])).mono ?_
  rintro e w4 ⟨rfl, hb4⟩
  have kk4 : Kp w3 w4 := Kp.of hb4
  go_wp2
  go_ret
  exact ⟨rfl, (kk1.trans (kk2.trans (kk3.trans kk4))).bel⟩

def errF : List (List IP) → Int
  | [] => 0
  | x :: l => if (parOf x).2 ≠ 0 then (parOf x).2 else errF l
def formF : List (List IP) → Int
  | [] => 0
  | x :: l => if zipOk x = true then formF l else 3
def zrR (ls : List (List IP)) : Int := if errF ls ≠ 0 then errF ls else formF ls
theorem errF_len : ∀ {ls : List (List IP)}, errF ls = 0 → ∀ x ∈ ls, x.length ≤ 200
  | [], _, _, h => by simp at h
  | y :: l, h, x, hx => by
    unfold errF at h
    split at h
    · next h1 => exact absurd h h1
    · next h1 =>
      rcases List.mem_cons.1 hx with rfl | hx
      · exact (parOf_len _ (by omega)).1
      · exact errF_len h x hx
theorem errF_drop (ls : List (List IP)) (k : Nat) (h : k < ls.length) : errF (ls.drop k) = if (parOf ls[k]).2 ≠ 0 then (parOf ls[k]).2 else errF (ls.drop (k + 1)) := by
  rw [List.drop_eq_getElem_cons h, errF]
theorem formF_drop (ls : List (List IP)) (k : Nat) (h : k < ls.length) : formF (ls.drop k) = if zipOk ls[k] = true then formF (ls.drop (k + 1)) else 3 := by
  rw [List.drop_eq_getElem_cons h, formF]
def ZeRel (ls : List (List IP)) (w : World) (iv : Value) (wr : World) : Prop := ∃ k : Nat, k ≤ ls.length ∧ iv = .int .i64 k ∧ errF (ls.drop k) = errF ls ∧ Kp w wr
def ZfRel (ls : List (List IP)) (w : World) (iv : Value) (wr : World) : Prop := ∃ k : Nat, k ≤ ls.length ∧ iv = .int .i64 k ∧ formF (ls.drop k) = formF ls ∧ Kp w wr
set_option maxRecDepth 100000 in
set_option maxHeartbeats 2000000 in
theorem zipRight_any (ls : List (List IP)) (v : Value) (w : World) (hr : RDS w ePair v ls) : Calls Tryd.prog 11 #[v] w (Ret (.int .i64 (zrR ls)) w) := by
  obtain ⟨A, c, rfl, hc, hm⟩ := hr.shape
  have HR := hide hr
  have HZ : Hid (zrR ls = if errF ls ≠ 0 then errF ls else formF ls) := hide rfl
  have HEL := hide (fun h x hx => errF_len (ls := ls) h x hx)
  clear hr
  go_enter Tryd.func11, Tryd.ntmps11
  go_wp2
  go_loopw [10] (ZeRel ls w) (fun i _ => ls.length - (intOf i).toNat)
  case atStart => exact ⟨0, by omega, rfl, rfl, Kp.refl _⟩
  case round =>
    obtain ⟨k, hk, rfl, he, hkp⟩ := hrel
    by_cases hlt : k < ls.length
    · obtain ⟨b, o, u, rfl, hb, cu, hu⟩ := (HR.out.kp hkp).at_ hlt
      have HE := hide he
      rw [errF_drop ls k hlt] at HE
      obtain ⟨x, hx⟩ : ∃ x, x = ls[k] := ⟨_, rfl⟩
      rw [← hx] at hu HE
      have HU := hide hu
      clear he hu hx
      obtain ⟨q, hq⟩ : ∃ q, q = (parOf x).2 := ⟨_, rfl⟩
      have HSP := hide (fun W h => spotsRight_any x u W h)
      rw [← hq] at HE HSP
      clear hq
      go_wp2_with fail
      with_reducible refine (HSP.out _ HU.out).mono ?_
      rintro e w1 ⟨rfl, hb1⟩
      have kk1 : Kp wr w1 := Kp.of hb1
      clear hb1
      by_cases hq0 : q = 0
      · subst hq0
        have HE2 := hide (HE.out)
        go_wp2
        go_roundw
        case rel => exact ⟨k + 1, by omega, by go_num, by rw [← HE2.out, if_neg (by simp)], hkp.trans kk1⟩
        case measure => simp [intOf]; omega
      · have b0 : (q != 0) = true := by simpa using hq0
        have HQ : Hid (zrR ls = q) := hide (by rw [HZ.out, ← HE.out, if_pos hq0, if_pos hq0])
        clear HE HZ
        go_wp2
        go_ret
        exact ⟨by rw [HQ.out]; rfl, (hkp.trans kk1).bel⟩
    · have he0 : errF ls = 0 := by rw [← he, List.drop_of_length_le (by omega)]; rfl
      have HF : Hid (zrR ls = formF ls) := hide (by rw [HZ.out, if_neg (by simp [he0])])
      have HL := hide (HEL.out he0)
      have HKP := hide hkp
      clear he he0 HZ
      go_wp2
      go_loopw [22] (ZfRel ls wr) (fun i _ => ls.length - (intOf i).toNat)
      case atStart => exact ⟨0, by omega, rfl, rfl, Kp.refl _⟩
      case round =>
        obtain ⟨j, hj, rfl, hf, hkq⟩ := hrel
        by_cases hltj : j < ls.length
        · obtain ⟨b, o, u, rfl, hb, cu, hu⟩ := (HR.out.kp (hkp.trans hkq)).at_ hltj
          have HE := hide hf
          rw [formF_drop ls j hltj] at HE
          have hxl := HL.out ls[j] (List.getElem_mem _)
          obtain ⟨x, hx⟩ : ∃ x, x = ls[j] := ⟨_, rfl⟩
          rw [← hx] at hu HE hxl
          have HU := hide hu
          clear hf hu hx
          have HIZ := hide (fun W h => isZipped_any x u W h (by omega))
          obtain ⟨q, hq⟩ : ∃ q, q = zipOk x := ⟨_, rfl⟩
          rw [← hq] at HE HIZ
          clear hq
          go_wp2_with fail
          with_reducible refine (HIZ.out _ HU.out).mono ?_
          rintro e w1 ⟨rfl, hb1⟩
          rename_i wq _ _ _
          have kk1 := Kp.of hb1
          clear hb1
          cases q with
          | true =>
            go_wp2
            go_roundw
            case rel => exact ⟨j + 1, by omega, by go_num, by rw [← HE.out, if_pos trivial], hkq.trans kk1⟩
            case measure => simp [intOf]; omega
          | false =>
            go_wp2
            go_ret
            exact ⟨by rw [HF.out, ← HE.out]; rfl, (hkp.trans (hkq.trans kk1)).bel⟩
        · have h0 : formF ls = 0 := by rw [← hf, List.drop_of_length_le (by omega)]; rfl
          have HF0 := hide h0
          clear h0 hf
          go_wp2
          go_ret
          exact ⟨by rw [HF.out, HF0.out]; rfl, (hkp.trans hkq).bel⟩
end Go.Proofs.YtfgbbmjnjppfnaaDoor
