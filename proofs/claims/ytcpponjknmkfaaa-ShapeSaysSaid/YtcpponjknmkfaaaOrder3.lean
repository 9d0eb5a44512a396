/-
  shape.Order by depths: what it answers. Conditions: the list reads as l (RD).
-/
import Derived.Test.YtcpponjknmkfaaaOrder
import Derived.Test.YtcpponjknmkfaaaStFunc
import Derived.Test.YtcpponjknmkfaaaClone
namespace Go.Proofs.Ytcpponjknmkfaaa
open Go.ChangeShapes Go.WideShapes Go.ChangeAt Go.RowKit
set_option linter.unusedVariables false
set_option linter.unusedSimpArgs false

theorem merge_sorted (l : List IP) : SortedK Prod.snd (l.mergeSort (fun a b => decide (a.2 ≤ b.2))) := by
  have := List.pairwise_mergeSort (le := fun a b : IP => decide (a.2 ≤ b.2)) (fun a b c h1 h2 => by simp at *; omega) (fun a b => by simp; omega) l
  exact List.Pairwise.imp (fun h => by simpa using h) this
theorem merge_stab (l : List IP) : StabEq Prod.snd l (l.mergeSort (fun a b => decide (a.2 ≤ b.2))) := fun k => by
  have hs : (l.filter fun x => x.2 == k).Pairwise (fun a b => decide (a.2 ≤ b.2) = true) := by
    rw [List.pairwise_iff_forall_sublist]
    intro a b h
    have ha := h.subset (show a ∈ [a, b] by simp)
    have hb := h.subset (show b ∈ [a, b] by simp)
    simp at ha hb ⊢
    omega
  have h1 := List.sublist_mergeSort (le := fun a b : IP => decide (a.2 ≤ b.2)) (fun a b c h1 h2 => by simp at *; omega) (fun a b => by simp; omega) hs (List.filter_sublist (l := l))
  have h2 := h1.filter (fun x => x.2 == k)
  rw [List.filter_filter] at h2
  simp only [Bool.and_self] at h2
  have hp := (List.mergeSort_perm l (fun a b : IP => decide (a.2 ≤ b.2))).filter (fun x => x.2 == k)
  exact (h2.eq_of_length hp.length_eq.symm).symm
theorem ord3_of {l l' : List IP} (h1 : SortedK Prod.snd l') (h2 : StabEq Prod.snd l l') : l'.map Prod.fst = ord3 l := by
  rw [ord3, stab_unique h1 (merge_sorted l) (fun k => (merge_stab l k).trans (h2 k).symm)]
def O3R (S : List IP) (w : World) (g : Nat) (iv : Value) (wr : World) : Prop :=
  ∃ (k : Nat) (v : Value), k ≤ S.length ∧ iv = .int .i64 (k : Int) ∧ BC wr g 23 [v] ∧ OW wr w.heap.size 3 eInt v ((S.take k).map Prod.fst) ∧ Kf (fun i => i = g) w wr
set_option maxRecDepth 100000 in
set_option maxHeartbeats 4000000 in
theorem order3_any (l : List IP) (v : Value) (w : World) (hr : RD w ePair v l) : Calls Try.prog 11 #[v, .int .i64 3] w (Ret2 eInt (orderOf l 3) w) := by
  obtain ⟨A, c, rfl, hc, hm⟩ := hr.shape
  have HR := hide hr
  have HCK := hide (fun W v h => shapeCheck_any l v W h)
  clear hr
  by_cases h0 : (parOf l).2 = 0
  · obtain ⟨hlen, _⟩ := parOf_len l h0
    rw [h0] at HCK
    have H1 : Hid (orderOf l 3 = (ord3 l, 0)) := hide (by rw [orderOf, if_neg (by simp [h0])]; rfl)
    have HCL := hide (fun W v h => cloneSpots_any l v W h (by omega))
    clear h0
    go_enter Try.func11, Try.ntmps11
    go_wp2_with fail
    with_reducible refine (HCK.out _ _ HR.out).mono ?_
    rintro e w1 ⟨rfl, hb1⟩
    have k1 : Kp w w1 := hb1
    obtain ⟨W1, hW1⟩ : ∃ W1, W1 = w1.alloc (.cells #[.slice none 0 0] 23) := ⟨_, rfl⟩
    have HBO := hide (show BC W1 w1.heap.size 23 [.slice none 0 0] by rw [hW1]; exact BC.new w1 23 _)
    have HK1 := hide (show Kp w W1 by rw [hW1]; exact k1.alloc)
    have HZ1 := hide (show W1.heap.size = w1.heap.size + 1 by rw [hW1]; simp)
    have HZ0 := hide k1.size
    have HW1 := hide hW1
    clear hb1 k1 hW1
    go_wp2_with fail
    rw [← HW1.out]
    with_reducible refine (HCL.out _ _ (HR.out.kp HK1.out)).mono ?_
    rintro e w2 ⟨v2, rfl, ho2, hb2⟩
    have HK2 := hide (Kp.of hb2)
    have HO2 := hide ho2
    have HSS := hide (sortStable_any l v2 W1.heap.size w2 (by omega) ho2)
    clear ho2 hb2
    go_wp2_with fail
    with_reducible refine HSS.out.mono ?_
    rintro e w3 ⟨rfl, S, hs1, hs2, hs3, ho3, hk3⟩
    obtain ⟨A3, c3, rfl, _, _⟩ := ho3.rd.shape
    have hbo3 := (HBO.out.kp HK2.out).kf hk3 (fun h => by have := (HO2.out.lt _ h).1; have := HZ1.out; omega)
    have HS := hide (And.intro hs1 (And.intro hs2 hs3))
    have HO3 := hide ho3
    have HK3 : Hid (Kp w w3) := hide (hk3.kp (HK1.out.trans HK2.out) (fun i h => by have := (HO2.out.lt _ h).1; have := HK1.out.size; omega))
    have HNE := hide (ho3.bc_ne hbo3 (by decide))
    have HREL : Hid (O3R S w3 w1.heap.size (.int .i64 0) w3) := hide ⟨0, .slice none 0 0, by omega, rfl, hbo3, OW.nil, Kf.refl _ _⟩
    clear hs1 hs2 hs3 ho3 hk3 hbo3
    go_wp2
    go_loopw [34] (O3R S w3 w1.heap.size) (fun i _ => S.length - (intOf i).toNat)
    case atStart => exact HREL.out
    case round =>
      clear HREL
      obtain ⟨k, v, hk, rfl, hbc, ho, hkf⟩ := hrel
      have HBC := hide hbc
      have HO := hide ho
      have HKF := hide hkf
      have g0 : wr.cell? ⟨w1.heap.size, 0, none⟩ = some v := hbc.cell 0
      have hr4 := HO3.out.rd.kf hkf (fun _ i hi e => HNE.out (e ▸ hi))
      have HOB := hide (ho.bc_ne hbc (by decide))
      clear hbc ho hkf
      by_cases hlt : k < S.length
      · obtain ⟨b, o, rfl, _, x0, x1⟩ := hr4.pair hlt
        obtain ⟨y, hy⟩ : ∃ y, y = S[k].1 := ⟨_, rfl⟩
        rw [← hy] at x0
        have HN : Hid ((S.take k).map Prod.fst ++ [y] = (S.take (k + 1)).map Prod.fst) := hide (by rw [List.take_succ_eq_append_getElem hlt, List.map_append, hy]; rfl)
        have hSl := HS.out.2.2
        have HM1 : Hid ((((S.take k).map Prod.fst).length + [y].length) * 8 ≤ 140737488355328) := hide (by simp; omega)
        have HM2 : Hid (((S.take k).map Prod.fst).length + [y].length ≤ maxLen) := hide (by simp [maxLen]; omega)
        obtain ⟨A5, N5, c5, rfl⟩ := HO.out.rd.slice
        have hfz := HBC.out.frozen 0
        have HSZ := hide HKF.out.size
        have hgl := HBC.out.lt
        clear hy hSl
        go_wp2_with (at_builtin; (with_reducible refine list_app (B := w3.heap.size) (l := ((S.take k).map Prod.fst)) (m := [y]) row_int (.slice A5 N5 c5) ?_ (.tmp 38) (.tmp 41) ?_ ?_ ?_ ?_ HM1.out HM2.out ?_ ?_); (with_reducible rfl); (with_reducible rfl); rfl; (exact (HO.out.alloc _).alloc _); (show RD _ _ (.slice (some ⟨_, 0, none⟩) 1 1) _; (focus ((repeat (first | (with_reducible assumption) | exact RD.new1 _ rfl | (refine RD.new1e _ ?_ rfl; simp; done) | (with_reducible apply RD.alloc) | (with_reducible apply RD.drew) | (with_reducible apply RD.drewN) | ((with_reducible apply RD.belowR); (with_reducible assumption)))); done))); (have := HSZ.out; simp; omega); intro v6 w6 ho6 hg6 hat6; have hbc6 : BC w6 w1.heap.size 23 [.slice A5 N5 c5] := ((HBC.out.kp (Kp.refl _).alloc).kp (Kp.refl _).alloc).kf (Kf.app (v := .slice A5 N5 c5) (Kf.refl (fun i => (Value.slice A5 N5 c5).ownBlock = some i) _) hg6 (fun i hi => .inl hi)) (fun h => HOB.out h); have g6 : w6.cell? ⟨w1.heap.size, 0, none⟩ = some (.slice A5 N5 c5) := hbc6.cell 0; have f6 := hbc6.frozen 0; have HNE6 := hide (ho6.bc_ne hbc6 (by decide)); obtain ⟨A6, N6, c6, rfl⟩ := ho6.rd.slice)
        go_roundw
        case rel =>
          have hkw : Kf (fun i => i = w1.heap.size) w3 w6 := Kf.app (HKF.out.on (Kp.refl _).alloc.alloc) hg6 (fun i hi => .inr ((HO.out.lt i hi).1))
          exact ⟨k + 1, .slice A6 N6 c6, by omega, by go_num, hbc6.set (j := 0), by rw [← HN.out]; exact ho6.setCell (fun h => HNE6.out h) _, hkw.set (.inl rfl)⟩
        case measure => simp [intOf]; omega
      · have hkl : S.take k = S := List.take_of_length_le (by omega)
        rw [hkl] at HO
        have HE := hide (ord3_of HS.out.1 HS.out.2.1)
        have HKE := hide (HKF.out.kp HK3.out (fun i h => by have := HZ0.out; omega))
        obtain ⟨A5, N5, c5, rfl⟩ := HO.out.rd.slice
        clear hkl
        go_wp2
        go_ret2
        exact ⟨_, by rw [H1.out]; rfl, by rw [H1.out]; show RD _ eInt _ (ord3 l); rw [← HE.out]; exact HO.out.rd, HKE.out.bel⟩
  · have H1 : Hid (orderOf l 3 = ([], (parOf l).2)) := hide (by rw [orderOf, if_pos h0])
    obtain ⟨r, hr⟩ : ∃ r, r = (parOf l).2 := ⟨_, rfl⟩
    rw [← hr] at HCK H1 h0
    have hne : (r != 0) = true := by simp [h0]
    clear h0 hr
    go_enter Try.func11, Try.ntmps11
    go_wp2_with fail
    with_reducible refine (HCK.out _ _ HR.out).mono ?_
    rintro e w1 ⟨rfl, hb1⟩
    go_wp2
    go_ret2
    exact ⟨_, by rw [H1.out]; rfl, by rw [H1.out]; exact RD.nil, hb1⟩
end Go.Proofs.Ytcpponjknmkfaaa
