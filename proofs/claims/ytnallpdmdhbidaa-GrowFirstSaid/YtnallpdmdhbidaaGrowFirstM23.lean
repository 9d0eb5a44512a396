/-
  slices.SortStableFunc at spots: the row is sorted, those of one depth stay in order. Conditions: the row is the call's own (OW).
  slices.Clone at pairs and spots: what it answers. Conditions: the list reads as l (RD).
  shape.Order by depths: what it answers. Conditions: the list reads as l (RD).
  hedgref.TreeOf, hedgref.SpotsRight: what they answer. Conditions: the list reads as l (RD).
-/
import Derived.Test.YtnallpdmdhbidaaGrowFirstM22
import Derived.Test.YtnallpdmdhbidaaGrowFirstM6
import Derived.Test.YtnallpdmdhbidaaGrowFirstM12
import Derived.Test.YtnallpdmdhbidaaGrowFirstM5
import Derived.Test.YtnallpdmdhbidaaGrowFirstM10

namespace Go.Proofs.Ytnallpdmdhbidaa
open Go.ChangeShapes Go.WideShapes Go.ChangeAt Go.RowKit
set_option linter.unusedVariables false
set_option linter.unusedSimpArgs false

def SmPost (w : World) (e : Ending) (w' : World) : Prop := e = .returned (.tuple #[]) ∧ w = w'
set_option maxRecDepth 100000 in
theorem ins_none (A : Option Addr) (n c : Nat) (fv : Value) (w : World) : Calls Try.prog 65 #[.slice A n c, .int .i64 0, .int .i64 0, fv] w (SmPost w) := by
  go_enter Try.func65, Try.ntmps65
  go_wp2
  go_loopw [8] (fun iv wr => iv = .int .i64 1 ∧ w = wr) (fun _ _ => 0)
  case atStart => exact ⟨rfl, rfl⟩
  case round =>
    obtain ⟨rfl, rfl⟩ := hrel
    go_wp2
    exact bodyPost_ret (v := .tuple #[]) (by simp [results, Try.results65, go_sem]) rfl ⟨rfl, rfl⟩
set_option maxRecDepth 100000 in
theorem stable_none (A : Option Addr) (c : Nat) (fv : Value) (w : World) : Calls Try.prog 56 #[.slice A 0 c, .int .i64 0, fv] w (SmPost w) := by
  have HI := hide (fun W => ins_none A 0 c fv W)
  go_enter Try.func56, Try.ntmps56
  go_wp2
  go_loopw [7, 8] (fun av bv wr => av = .int .i64 0 ∧ bv = .int .i64 20 ∧ w = wr) (fun _ _ _ => 0)
  case atStart => exact ⟨rfl, rfl, rfl⟩
  case round =>
    obtain ⟨rfl, rfl, rfl⟩ := hrel
    go_wp2_with fail
    with_reducible refine (HI.out _).mono ?_
    rintro e w1 ⟨rfl, rfl⟩
    go_wp2
    go_loopw [6] (fun sv wr => sv = .int .i64 20 ∧ w = wr) (fun _ _ => 0)
    case atStart => exact ⟨rfl, rfl⟩
    case round =>
      obtain ⟨rfl, rfl⟩ := hrel
      go_wp2
      exact bodyPost_ret (v := .tuple #[]) (by simp [results, Try.results56, go_sem]) rfl ⟨rfl, rfl⟩
/-- What SortStableFunc leaves of a row of the call's own. -/
def SsPost (B : Nat) (e : TypeId) (v : Value) (l : List IP) (w : World) (en : Ending) (w' : World) : Prop :=
  en = .returned (.tuple #[]) ∧ ∃ l', SortedK Prod.snd l' ∧ StabEq Prod.snd l l' ∧ l'.length = l.length ∧ OW w' B e ePair v l' ∧ Kf (fun i => v.ownBlock = some i) w w'
set_option maxRecDepth 100000 in
theorem sortStable_any (l : List IP) (v : Value) (B : Nat) (w : World) (hn : l.length ≤ 1000) (ho : OW w B 38 ePair v l) :
    Calls Try.prog 42 #[v, .func (.func 43) #[] #[]] w (SsPost B 38 v l w) := by
  by_cases h0 : l.length = 0
  · obtain rfl : l = [] := List.eq_nil_of_length_eq_zero h0
    have HO := hide ho
    obtain ⟨A, c, rfl, _, _⟩ := ho.rd.shape
    have HSN := hide (fun W fv => stable_none A c fv W)
    clear ho h0
    simp only [List.length_nil] at HO ⊢
    go_enter Try.func42, Try.ntmps42
    go_wp2_with fail
    with_reducible refine (HSN.out _ _).mono ?_
    rintro e w1 ⟨rfl, rfl⟩
    go_wp2
    exact bodyPost_ret (v := .tuple #[]) (by simp [results, Try.results42, go_sem]) rfl ⟨rfl, [], List.Pairwise.nil, StabEq.refl _, rfl, HO.out, Kf.refl _ _⟩
  · obtain ⟨g, c, rfl, _, _⟩ := ho.shape (by omega)
    have HSN := hide (stable_any l l.length c g B w hn ho)
    clear ho
    go_enter Try.func42, Try.ntmps42
    go_wp2_with fail
    with_reducible refine HSN.out.mono ?_
    rintro e w1 ⟨rfl, l', h1, h2, h3, ho1, hk1⟩
    have H1 := hide (And.intro h1 (And.intro h2 h3))
    have HO1 := hide ho1
    have HK1 := hide hk1
    clear h1 h2 h3 ho1 hk1
    go_wp2
    exact bodyPost_ret (v := .tuple #[]) (by simp [results, Try.results42, go_sem]) rfl ⟨rfl, l', H1.out.1, H1.out.2.1, H1.out.2.2, HO1.out, HK1.out.mono (fun i _ h => by simp [Value.ownBlock, h])⟩
end Go.Proofs.Ytnallpdmdhbidaa
namespace Go.Proofs.Ytnallpdmdhbidaa
open Go.ChangeShapes Go.WideShapes Go.ChangeAt Go.RowKit
set_option linter.unusedVariables false
set_option linter.unusedSimpArgs false

set_option maxHeartbeats 400000 in
theorem clonePairs_any (l : List IP) (v : Value) (w : World) (hr : RD w ePair v l) (hn : l.length ≤ 1000000) : Calls Try.prog 59 #[v] w (RetOW 58 ePair l w) := by
  obtain ⟨A, c, rfl, hc, hm, hA, h3⟩ := id hr
  have he := fun W => Lib.run_eql_slice_nil (P := Try.prog) W 48 58 A l.length c 0 0 Try.underlying48
  have HR := hide hr
  clear hr h3
  cases A with
  | none =>
    have hc0 : c = 0 := hA rfl
    have hl : l = [] := List.eq_nil_of_length_eq_zero (by omega)
    subst hl
    subst hc0
    clear hA
    simp only [List.length_nil] at he ⊢
    go_enter Try.func59, Try.ntmps59
    go_wp2
    go_ret
    exact ⟨_, rfl, OW.nil, Below.refl _ _⟩
  | some a =>
    have HM1 : Hid ((([] : List IP).length + l.length) * 16 ≤ 140737488355328) := hide (by simp; omega)
    have HM2 : Hid (([] : List IP).length + l.length ≤ maxLen) := hide (by simp [maxLen]; omega)
    have HE : Hid (OW (w.alloc (.cells #[] 58)) w.heap.size 58 ePair (.slice (some ⟨w.heap.size, 0, none⟩) 0 0) ([] : List IP)) := hide (OW.empty (Nat.le_refl _))
    have HHI : Hi w.heap.size (.slice (some ⟨w.heap.size, 0, none⟩) 0 0) := fun k hk => by simp [Value.ownBlock] at hk; omega
    clear hA
    go_enter Try.func59, Try.ntmps59
    go_wp2_with (at_builtin; (with_reducible refine list_app (B := w.heap.size) (l := ([] : List IP)) (m := l) row_pair (.slice (some ⟨w.heap.size, 0, none⟩) 0 0) ?_ (.tmp 5) (.tmp 6) ?_ ?_ ?_ ?_ HM1.out HM2.out ?_ ?_); (with_reducible rfl); (with_reducible rfl); rfl; (exact HE.out); (show RD _ _ (.slice (some a) l.length c) _; exact HR.out.alloc _); (simp); intro v3 w3 ho3 hg3 hat3)
    go_ret
    exact ⟨_, rfl, ho3, (Kp.app hg3 (Kp.refl w).alloc HHI).bel⟩
set_option maxHeartbeats 400000 in
theorem cloneSpots_any (l : List IP) (v : Value) (w : World) (hr : RD w ePair v l) (hn : l.length ≤ 1000000) : Calls Try.prog 41 #[v] w (RetOW 38 ePair l w) := by
  obtain ⟨A, c, rfl, hc, hm, hA, h3⟩ := id hr
  have he := fun W => Lib.run_eql_slice_nil (P := Try.prog) W 24 38 A l.length c 0 0 Try.underlying24
  have HR := hide hr
  clear hr h3
  cases A with
  | none =>
    have hc0 : c = 0 := hA rfl
    have hl : l = [] := List.eq_nil_of_length_eq_zero (by omega)
    subst hl
    subst hc0
    clear hA
    simp only [List.length_nil] at he ⊢
    go_enter Try.func41, Try.ntmps41
    go_wp2
    go_ret
    exact ⟨_, rfl, OW.nil, Below.refl _ _⟩
  | some a =>
    have HM1 : Hid ((([] : List IP).length + l.length) * 16 ≤ 140737488355328) := hide (by simp; omega)
    have HM2 : Hid (([] : List IP).length + l.length ≤ maxLen) := hide (by simp [maxLen]; omega)
    have HE : Hid (OW (w.alloc (.cells #[] 38)) w.heap.size 38 ePair (.slice (some ⟨w.heap.size, 0, none⟩) 0 0) ([] : List IP)) := hide (OW.empty (Nat.le_refl _))
    have HHI : Hi w.heap.size (.slice (some ⟨w.heap.size, 0, none⟩) 0 0) := fun k hk => by simp [Value.ownBlock] at hk; omega
    clear hA
    go_enter Try.func41, Try.ntmps41
    go_wp2_with (at_builtin; (with_reducible refine list_app (B := w.heap.size) (l := ([] : List IP)) (m := l) row_spot (.slice (some ⟨w.heap.size, 0, none⟩) 0 0) ?_ (.tmp 5) (.tmp 6) ?_ ?_ ?_ ?_ HM1.out HM2.out ?_ ?_); (with_reducible rfl); (with_reducible rfl); rfl; (exact HE.out); (show RD _ _ (.slice (some a) l.length c) _; exact HR.out.alloc _); (simp); intro v3 w3 ho3 hg3 hat3)
    go_ret
    exact ⟨_, rfl, ho3, (Kp.app hg3 (Kp.refl w).alloc HHI).bel⟩
end Go.Proofs.Ytnallpdmdhbidaa
namespace Go.Proofs.Ytnallpdmdhbidaa
open Go.ChangeShapes Go.WideShapes Go.ChangeAt Go.RowKit
set_option linter.unusedVariables false
set_option linter.unusedSimpArgs false

theorem merge_sorted (l : List IP) : SortedK Prod.snd (l.mergeSort (fun a b => decide (a.2 ≤ b.2))) := by
  have := List.pairwise_mergeSort (le := fun a b : IP => decide (a.2 ≤ b.2)) (fun a b c h1 h2 => by simp at *; omega) (fun a b => by simp; omega) l
  exact List.Pairwise.imp (fun h => by simpa using h) this
theorem merge_stab (l : List IP) : StabEq Prod.snd l (l.mergeSort (fun a b => decide (a.2 ≤ b.2))) := fun k => by
  have hs : (l.filter fun x => x.2 == k).Pairwise (fun a b => decide (a.2 ≤ b.2) = true) := by
    rw [List.pairwise_iff_forall_sublist]
    intro a b h
    have ha := h.subset (show a ∈ [a, b] by simp)
    have hb := h.subset (show b ∈ [a, b] by simp)
    simp at ha hb ⊢
    omega
  have h1 := List.sublist_mergeSort (le := fun a b : IP => decide (a.2 ≤ b.2)) (fun a b c h1 h2 => by simp at *; omega) (fun a b => by simp; omega) hs (List.filter_sublist (l := l))
  have h2 := h1.filter (fun x => x.2 == k)
  rw [List.filter_filter] at h2
  simp only [Bool.and_self] at h2
  have hp := (List.mergeSort_perm l (fun a b : IP => decide (a.2 ≤ b.2))).filter (fun x => x.2 == k)
  exact (h2.eq_of_length hp.length_eq.symm).symm
theorem ord3_of {l l' : List IP} (h1 : SortedK Prod.snd l') (h2 : StabEq Prod.snd l l') : l'.map Prod.fst = ord3 l := by
  rw [ord3, stab_unique h1 (merge_sorted l) (fun k => (merge_stab l k).trans (h2 k).symm)]
def O3R (S : List IP) (w : World) (g : Nat) (iv : Value) (wr : World) : Prop :=
  ∃ (k : Nat) (v : Value), k ≤ S.length ∧ iv = .int .i64 (k : Int) ∧ BC wr g 22 [v] ∧ OW wr w.heap.size 3 eInt v ((S.take k).map Prod.fst) ∧ Kf (fun i => i = g) w wr
set_option maxRecDepth 100000 in
set_option maxHeartbeats 4000000 in
theorem order3_any (l : List IP) (v : Value) (w : World) (hr : RD w ePair v l) : Calls Try.prog 27 #[v, .int .i64 3] w (Ret2 eInt (orderOf l 3) w) := by
  obtain ⟨A, c, rfl, hc, hm⟩ := hr.shape
  have HR := hide hr
  have HCK := hide (fun W v h => shapeCheck_any l v W h)
  clear hr
  by_cases h0 : (parOf l).2 = 0
  · obtain ⟨hlen, _⟩ := parOf_len l h0
    rw [h0] at HCK
    have H1 : Hid (orderOf l 3 = (ord3 l, 0)) := hide (by rw [orderOf, if_neg (by simp [h0])]; rfl)
    have HCL := hide (fun W v h => cloneSpots_any l v W h (by omega))
    clear h0
    go_enter Try.func27, Try.ntmps27
    go_wp2_with fail
    with_reducible refine (HCK.out _ _ HR.out).mono ?_
    rintro e w1 ⟨rfl, hb1⟩
    have k1 : Kp w w1 := hb1
    obtain ⟨W1, hW1⟩ : ∃ W1, W1 = w1.alloc (.cells #[.slice none 0 0] 22) := ⟨_, rfl⟩
    have HBO := hide (show BC W1 w1.heap.size 22 [.slice none 0 0] by rw [hW1]; exact BC.new w1 22 _)
    have HK1 := hide (show Kp w W1 by rw [hW1]; exact k1.alloc)
    have HZ1 := hide (show W1.heap.size = w1.heap.size + 1 by rw [hW1]; simp)
    have HZ0 := hide k1.size
    have HW1 := hide hW1
    clear hb1 k1 hW1
    go_wp2_with fail
    rw [← HW1.out]
    with_reducible refine (HCL.out _ _ (HR.out.kp HK1.out)).mono ?_
    rintro e w2 ⟨v2, rfl, ho2, hb2⟩
    have HK2 := hide (Kp.of hb2)
    have HO2 := hide ho2
    have HSS := hide (sortStable_any l v2 W1.heap.size w2 (by omega) ho2)
    clear ho2 hb2
    go_wp2_with fail
    with_reducible refine HSS.out.mono ?_
    rintro e w3 ⟨rfl, S, hs1, hs2, hs3, ho3, hk3⟩
    obtain ⟨A3, c3, rfl, _, _⟩ := ho3.rd.shape
    have hbo3 := (HBO.out.kp HK2.out).kf hk3 (fun h => by have := (HO2.out.lt _ h).1; have := HZ1.out; omega)
    have HS := hide (And.intro hs1 (And.intro hs2 hs3))
    have HO3 := hide ho3
    have HK3 : Hid (Kp w w3) := hide (hk3.kp (HK1.out.trans HK2.out) (fun i h => by have := (HO2.out.lt _ h).1; have := HK1.out.size; omega))
    have HNE := hide (ho3.bc_ne hbo3 (by decide))
    have HREL : Hid (O3R S w3 w1.heap.size (.int .i64 0) w3) := hide ⟨0, .slice none 0 0, by omega, rfl, hbo3, OW.nil, Kf.refl _ _⟩
    clear hs1 hs2 hs3 ho3 hk3 hbo3
    go_wp2
    go_loopw [34] (O3R S w3 w1.heap.size) (fun i _ => S.length - (intOf i).toNat)
    case atStart => exact HREL.out
    case round =>
      clear HREL
      obtain ⟨k, v, hk, rfl, hbc, ho, hkf⟩ := hrel
      have HBC := hide hbc
      have HO := hide ho
      have HKF := hide hkf
      have g0 : wr.cell? ⟨w1.heap.size, 0, none⟩ = some v := hbc.cell 0
      have hr4 := HO3.out.rd.kf hkf (fun _ i hi e => HNE.out (e ▸ hi))
      have HOB := hide (ho.bc_ne hbc (by decide))
      clear hbc ho hkf
      by_cases hlt : k < S.length
      · obtain ⟨b, o, rfl, _, x0, x1⟩ := hr4.pair hlt
        obtain ⟨y, hy⟩ : ∃ y, y = S[k].1 := ⟨_, rfl⟩
        rw [← hy] at x0
        have HN : Hid ((S.take k).map Prod.fst ++ [y] = (S.take (k + 1)).map Prod.fst) := hide (by rw [List.take_succ_eq_append_getElem hlt, List.map_append, hy]; rfl)
        have hSl := HS.out.2.2
        have HM1 : Hid ((((S.take k).map Prod.fst).length + [y].length) * 8 ≤ 140737488355328) := hide (by simp; omega)
        have HM2 : Hid (((S.take k).map Prod.fst).length + [y].length ≤ maxLen) := hide (by simp [maxLen]; omega)
        obtain ⟨A5, N5, c5, rfl⟩ := HO.out.rd.slice
        have hfz := HBC.out.frozen 0
        have HSZ := hide HKF.out.size
        have hgl := HBC.out.lt
        clear hy hSl
        go_wp2_with (at_builtin; (with_reducible refine list_app (B := w3.heap.size) (l := ((S.take k).map Prod.fst)) (m := [y]) row_int (.slice A5 N5 c5) ?_ (.tmp 38) (.tmp 41) ?_ ?_ ?_ ?_ HM1.out HM2.out ?_ ?_); (with_reducible rfl); (with_reducible rfl); rfl; (exact (HO.out.alloc _).alloc _); (show RD _ _ (.slice (some ⟨_, 0, none⟩) 1 1) _; (focus ((repeat (first | (with_reducible assumption) | exact RD.new1 _ rfl | (refine RD.new1e _ ?_ rfl; simp; done) | (with_reducible apply RD.alloc) | (with_reducible apply RD.drew) | (with_reducible apply RD.drewN) | ((with_reducible apply RD.belowR); (with_reducible assumption)))); done))); (have := HSZ.out; simp; omega); intro v6 w6 ho6 hg6 hat6; have hbc6 : BC w6 w1.heap.size 22 [.slice A5 N5 c5] := ((HBC.out.kp (Kp.refl _).alloc).kp (Kp.refl _).alloc).kf (Kf.app (v := .slice A5 N5 c5) (Kf.refl (fun i => (Value.slice A5 N5 c5).ownBlock = some i) _) hg6 (fun i hi => .inl hi)) (fun h => HOB.out h); have g6 : w6.cell? ⟨w1.heap.size, 0, none⟩ = some (.slice A5 N5 c5) := hbc6.cell 0; have f6 := hbc6.frozen 0; have HNE6 := hide (ho6.bc_ne hbc6 (by decide)); obtain ⟨A6, N6, c6, rfl⟩ := ho6.rd.slice)
        go_roundw
        case rel =>
          have hkw : Kf (fun i => i = w1.heap.size) w3 w6 := Kf.app (HKF.out.on (Kp.refl _).alloc.alloc) hg6 (fun i hi => .inr ((HO.out.lt i hi).1))
          exact ⟨k + 1, .slice A6 N6 c6, by omega, by go_num, hbc6.set (j := 0), by rw [← HN.out]; exact ho6.setCell (fun h => HNE6.out h) _, hkw.set (.inl rfl)⟩
        case measure => simp [intOf]; omega
      · have hkl : S.take k = S := List.take_of_length_le (by omega)
        rw [hkl] at HO
        have HE := hide (ord3_of HS.out.1 HS.out.2.1)
        have HKE := hide (HKF.out.kp HK3.out (fun i h => by have := HZ0.out; omega))
        obtain ⟨A5, N5, c5, rfl⟩ := HO.out.rd.slice
        clear hkl
        go_wp2
        go_ret2
        exact ⟨_, by rw [H1.out]; rfl, by rw [H1.out]; show RD _ eInt _ (ord3 l); rw [← HE.out]; exact HO.out.rd, HKE.out.bel⟩
  · have H1 : Hid (orderOf l 3 = ([], (parOf l).2)) := hide (by rw [orderOf, if_pos h0])
    obtain ⟨r, hr⟩ : ∃ r, r = (parOf l).2 := ⟨_, rfl⟩
    rw [← hr] at HCK H1 h0
    have hne : (r != 0) = true := by simp [h0]
    clear h0 hr
    go_enter Try.func27, Try.ntmps27
    go_wp2_with fail
    with_reducible refine (HCK.out _ _ HR.out).mono ?_
    rintro e w1 ⟨rfl, hb1⟩
    go_wp2
    go_ret2
    exact ⟨_, by rw [H1.out]; rfl, by rw [H1.out]; exact RD.nil, hb1⟩
end Go.Proofs.Ytnallpdmdhbidaa
namespace Go.Proofs.Ytnallpdmdhbidaa
open Go.ChangeShapes Go.WideShapes Go.ChangeAt Go.RowKit
set_option linter.unusedVariables false
set_option linter.unusedSimpArgs false

theorem topF_spec (l : List IP) (lo : Nat) : ∀ n k a al, lo ≤ a → a < k → (∀ j, lo ≤ j → j < k → gv l a ≤ gv l j) → (al = true → ∀ j, lo ≤ j → j < k → j ≠ a → gv l a < gv l j) → (al = false → ∃ j, lo ≤ j ∧ j < k ∧ j ≠ a ∧ gv l j = gv l a) →
    lo ≤ (topF l n k a al).1 ∧ (topF l n k a al).1 < k + n ∧ (∀ j, lo ≤ j → j < k + n → gv l (topF l n k a al).1 ≤ gv l j) ∧ ((topF l n k a al).2 = true → ∀ j, lo ≤ j → j < k + n → j ≠ (topF l n k a al).1 → gv l (topF l n k a al).1 < gv l j) ∧
      ((topF l n k a al).2 = false → ∃ j, lo ≤ j ∧ j < k + n ∧ j ≠ (topF l n k a al).1 ∧ gv l j = gv l (topF l n k a al).1)
  | 0, k, a, al, h0, h1, h2, h3, h4 => ⟨h0, by simpa [topF] using h1, by simpa [topF] using h2, by simpa [topF] using h3, by simpa [topF] using h4⟩
  | n + 1, k, a, al, h0, h1, h2, h3, h4 => by
    rw [topF, show k + (n + 1) = (k + 1) + n from by omega]
    split
    · rename_i hlt
      refine topF_spec l lo n (k + 1) k true (by omega) (by omega) (fun j j1 j2 => ?_) (fun _ j j1 j2 j3 => ?_) (by simp)
      · rcases Nat.lt_or_ge j k with h | h
        · have := h2 j j1 h; omega
        · rw [show j = k from by omega]; exact Int.le_refl _
      · have := h2 j j1 (by omega); omega
    · rename_i hnl
      split
      · rename_i heq
        refine topF_spec l lo n (k + 1) a false h0 (by omega) (fun j j1 j2 => ?_) (by simp) (fun _ => ⟨k, by omega, by omega, by omega, heq⟩)
        rcases Nat.lt_or_ge j k with h | h
        · exact h2 j j1 h
        · rw [show j = k from by omega]; omega
      · rename_i hne
        refine topF_spec l lo n (k + 1) a al h0 (by omega) (fun j j1 j2 => ?_) (fun hal j j1 j2 j3 => ?_) (fun hal => ?_)
        · rcases Nat.lt_or_ge j k with h | h
          · exact h2 j j1 h
          · rw [show j = k from by omega]; omega
        · rcases Nat.lt_or_ge j k with h | h
          · exact h3 hal j j1 h j3
          · rw [show j = k from by omega]; omega
        · obtain ⟨j, a1, a2, a3, a4⟩ := h4 hal
          exact ⟨j, a1, by omega, a3, a4⟩
theorem topS_min (l : List IP) (lo hi : Nat) (h : lo < hi) : (∀ j, lo ≤ j → j < hi → gv l (topS l lo hi).1 ≤ gv l j) ∧ ((topS l lo hi).2 = true → ∀ j, lo ≤ j → j < hi → j ≠ (topS l lo hi).1 → gv l (topS l lo hi).1 < gv l j) := by
  have := topF_spec l lo (hi - (lo + 1)) (lo + 1) lo true (Nat.le_refl _) (by omega) (fun j a b => by rw [show j = lo from by omega]; exact Int.le_refl _) (fun _ j a b c => by omega) (by simp)
  rw [show lo + 1 + (hi - (lo + 1)) = hi from by omega] at this
  exact ⟨this.2.2.1, this.2.2.2.1⟩

def treeOf (l : List IP) (d : Int) : T × Bool :=
  if h : l = [] then (.nil, true)
  else
    have := topS_in l 0 l.length (List.length_pos_iff.2 h)
    if (topS l 0 l.length).2 = true ∧ gv l (topS l 0 l.length).1 = d then
      (.node (gk l (topS l 0 l.length).1) (treeOf (l.take (topS l 0 l.length).1) (d + 1)).1 (treeOf (l.drop ((topS l 0 l.length).1 + 1)) (d + 1)).1,
        (treeOf (l.take (topS l 0 l.length).1) (d + 1)).2 && (treeOf (l.drop ((topS l 0 l.length).1 + 1)) (d + 1)).2)
    else (.nil, false)
termination_by l.length
decreasing_by all_goals simp <;> omega
theorem treeOf_nil (d : Int) : treeOf [] d = (.nil, true) := by rw [treeOf]; simp
theorem treeOf_node (l : List IP) (d : Int) (m : Nat) (hm : m < l.length) (h1 : gv l m = d) (h2 : ∀ j, j < l.length → j ≠ m → d < gv l j) : treeOf l d = (.node (gk l m) (treeOf (l.take m) (d + 1)).1 (treeOf (l.drop (m + 1)) (d + 1)).1, (treeOf (l.take m) (d + 1)).2 && (treeOf (l.drop (m + 1)) (d + 1)).2) := by
  have ht := topS_find l 0 l.length m (by omega) hm (fun j _ b c => by rw [h1]; exact h2 j b c)
  rw [treeOf, dif_neg (by rintro rfl; simp at hm)]
  simp only [ht, h1, and_self, if_true]
theorem treeOf_none (l : List IP) (d : Int) (h0 : l ≠ []) (h : ¬ ∃ m, m < l.length ∧ gv l m = d ∧ ∀ j, j < l.length → j ≠ m → d < gv l j) : treeOf l d = (.nil, false) := by
  have hpos := List.length_pos_iff.2 h0
  rw [treeOf, dif_neg h0]
  simp only
  rw [if_neg]
  rintro ⟨h1, h2⟩
  have ht := topS_in l 0 l.length hpos
  have hmn := (topS_min l 0 l.length hpos).2 h1
  exact h ⟨_, ht.2, h2, fun j a b => by have := hmn j (by omega) a b; omega⟩

def TrPost (r : T × Bool) (w : World) (e : Ending) (w' : World) : Prop := ∃ p, e = .returned (.tuple #[.pointer p, .bool r.2]) ∧ TR w' r.1 p ∧ Below w.heap.size w w'
def ToRel (l : List IP) (d : Int) (w : World) (av iv : Value) (wr : World) : Prop :=
  ∃ (k : Nat) (a : Int), k ≤ l.length ∧ iv = .int .i64 k ∧ av = .int .i64 a ∧ (∀ j (h : j < l.length), j < k → d ≤ l[j].2) ∧ ((a = -1 ∧ ∀ j (h : j < l.length), j < k → l[j].2 ≠ d) ∨ ∃ (m : Nat) (hm : m < l.length), a = m ∧ m < k ∧ l[m].2 = d ∧ ∀ j (h : j < l.length), j < k → j ≠ m → l[j].2 ≠ d) ∧ Kp w wr

end Go.Proofs.Ytnallpdmdhbidaa
