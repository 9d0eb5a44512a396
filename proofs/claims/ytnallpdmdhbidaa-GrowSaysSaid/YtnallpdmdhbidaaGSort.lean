/-
  grow.sorted, grow.Sort: what they answer. Conditions: the list reads as l (RD); of sorted: of at most 1000 keys.
-/
import Derived.Test.YtnallpdmdhbidaaGRight
import Derived.Test.YtnallpdmdhbidaaApart
namespace Go.Proofs.Ytnallpdmdhbidaa
open Go.ChangeShapes Go.WideShapes Go.ChangeAt Go.RowKit
set_option linter.unusedVariables false
set_option linter.unusedSimpArgs false

def lessL (x : Int) (l : List Int) : List Int := l.filter fun k => decide (k < x)
def moreL (x : Int) (l : List Int) : List Int := l.filter fun k => !decide (k < x)
theorem lessL_len (x : Int) (l : List Int) : (lessL x l).length ≤ l.length := List.length_filter_le _ _
theorem moreL_len (x : Int) (l : List Int) : (moreL x l).length ≤ l.length := List.length_filter_le _ _
theorem parts_len (x : Int) : ∀ l : List Int, (lessL x l).length + (moreL x l).length = l.length
  | [] => rfl
  | y :: t => by
    have := parts_len x t
    unfold lessL moreL at this ⊢
    by_cases h : y < x <;> simp [List.filter_cons, h] <;> omega
theorem lessL_snoc (x : Int) (l : List Int) (k : Nat) (h : k < l.length) : lessL x (l.take (k + 1)) = lessL x (l.take k) ++ if l[k] < x then [l[k]] else [] := by
  rw [List.take_succ_eq_append_getElem h, lessL, lessL, List.filter_append]
  congr 1
  by_cases hd : l[k] < x <;> simp [hd]
theorem moreL_snoc (x : Int) (l : List Int) (k : Nat) (h : k < l.length) : moreL x (l.take (k + 1)) = moreL x (l.take k) ++ if l[k] < x then [] else [l[k]] := by
  rw [List.take_succ_eq_append_getElem h, moreL, moreL, List.filter_append]
  congr 1
  by_cases hd : l[k] < x <;> simp [hd]
def sortF : Nat → List Int → List Int × Int
  | 0, l => (l, 0)
  | _ + 1, [] => ([], 0)
  | _ + 1, [x] => ([x], 0)
  | n + 1, x :: y :: t => ((sortF n (lessL x (y :: t))).1 ++ [x] ++ (sortF n (moreL x (y :: t))).1, (sortF n (lessL x (y :: t))).2 + (sortF n (moreL x (y :: t))).2 + ((x :: y :: t).length : Int) - 1)
theorem sortF_one (n : Nat) (l : List Int) (h : l.length < 2) : sortF n l = (l, 0) := by
  match n, l, h with
  | 0, _, _ => rfl
  | _ + 1, [], _ => rfl
  | _ + 1, [x], _ => rfl
theorem sortF_more (n : Nat) (x : Int) (t : List Int) (h : 0 < t.length) : sortF (n + 1) (x :: t) = ((sortF n (lessL x t)).1 ++ [x] ++ (sortF n (moreL x t)).1, (sortF n (lessL x t)).2 + (sortF n (moreL x t)).2 + ((x :: t).length : Int) - 1) := by
  match t, h with
  | y :: t, _ => rfl
theorem sortF_len : ∀ (n : Nat) (l : List Int), (sortF n l).1.length = l.length
  | 0, _ => rfl
  | _ + 1, [] => rfl
  | _ + 1, [x] => rfl
  | n + 1, x :: y :: t => by
    have := parts_len x (y :: t)
    simp only [sortF, List.length_append, sortF_len n, List.length_cons, List.length_nil] at this ⊢
    omega
theorem sortF_cnt : ∀ (n : Nat) (l : List Int), l.length ≤ 1000 → 0 ≤ (sortF n l).2 ∧ (sortF n l).2 ≤ 1000 * (l.length : Int)
  | 0, l, _ => by simp only [sortF]; omega
  | _ + 1, [], _ => by simp [sortF]
  | _ + 1, [x], _ => by simp [sortF]
  | n + 1, x :: y :: t, h => by
    have := parts_len x (y :: t)
    have h1 := sortF_cnt n (lessL x (y :: t)) (by simp only [List.length_cons] at h this; omega)
    have h2 := sortF_cnt n (moreL x (y :: t)) (by simp only [List.length_cons] at h this; omega)
    simp only [sortF, List.length_cons] at h this h1 h2 ⊢
    omega
def SoRel (x : Int) (t : List Int) (w : World) (lv mv iv : Value) (wr : World) : Prop :=
  ∃ k : Nat, k ≤ t.length ∧ iv = .int .i64 k ∧ OW wr w.heap.size 3 eInt lv (lessL x (t.take k)) ∧ OW wr w.heap.size 3 eInt mv (moreL x (t.take k)) ∧ Dis lv mv ∧ Kp w wr
def SortPost (r : List Int × Int) (w : World) (e : Ending) (w' : World) : Prop := ∃ v, e = .returned (.tuple #[v, .int .i64 r.2]) ∧ OW w' w.heap.size 3 eInt v r.1 ∧ Below w.heap.size w w'
set_option maxRecDepth 100000 in
set_option maxHeartbeats 8000000 in
theorem growSorted_any (n : Nat) : ∀ (l : List Int) (v : Value) (w : World), l.length ≤ n → n ≤ 1000 → RD w eInt v l → Calls Try.prog 35 #[v] w (SortPost (sortF n l) w) := by
  induction n with
  | zero =>
    intro l v w h1 h2 hr
    obtain rfl : l = [] := List.eq_nil_of_length_eq_zero (by omega)
    obtain ⟨A, c, rfl, hc, hm⟩ := hr.shape
    have HR := hide hr
    have HM1 : Hid ((([] : List Int).length + ([] : List Int).length) * 8 ≤ 140737488355328) := hide (by simp <;> omega)
    have HM2 : Hid (([] : List Int).length + ([] : List Int).length ≤ maxLen) := hide (by simp [maxLen] <;> omega)
    have HE : Hid (OW (w.alloc (.cells #[] 3)) w.heap.size 3 eInt (.slice (some ⟨w.heap.size, 0, none⟩) 0 0) ([] : List Int)) := hide (OW.empty (Nat.le_refl _))
    have HHI : Hi w.heap.size (.slice (some ⟨w.heap.size, 0, none⟩) 0 0) := fun k hk => by simp [Value.ownBlock] at hk; omega
    have HS1 := hide (sortF_one 0 ([] : List Int) (by first | decide | omega))
    clear hr
    go_enter Try.func35, Try.ntmps35
    go_wp2_with (at_builtin; (with_reducible refine list_app (B := w.heap.size) (l := ([] : List Int)) (m := ([] : List Int)) row_int (.slice (some ⟨w.heap.size, 0, none⟩) 0 0) ?_ (.tmp 15) (.tmp 16) ?_ ?_ ?_ ?_ HM1.out HM2.out ?_ ?_); (with_reducible rfl); (with_reducible rfl); rfl; (exact HE.out); (show RD _ _ (.slice A ([] : List Int).length c) _; exact HR.out.alloc _); (simp); intro v3 w3 ho3 hg3 hat3)
    go_ret2
    exact ⟨_, by rw [HS1.out]; rfl, by rw [HS1.out]; exact ho3, (Kp.app hg3 (Kp.refl w).alloc HHI).bel⟩
  | succ n ih =>
    intro l v w h1 h2 hr
    have IH := hide ih
    clear ih
    by_cases hl2 : l.length < 2
    · have HS := hide (sortF_one (n + 1) l hl2)
      obtain ⟨A, c, rfl, hc, hm⟩ := hr.shape
      have HR := hide hr
      have HM1 : Hid ((([] : List Int).length + l.length) * 8 ≤ 140737488355328) := hide (by simp <;> omega)
      have HM2 : Hid (([] : List Int).length + l.length ≤ maxLen) := hide (by simp [maxLen] <;> omega)
      have HE : Hid (OW (w.alloc (.cells #[] 3)) w.heap.size 3 eInt (.slice (some ⟨w.heap.size, 0, none⟩) 0 0) ([] : List Int)) := hide (OW.empty (Nat.le_refl _))
      have HHI : Hi w.heap.size (.slice (some ⟨w.heap.size, 0, none⟩) 0 0) := fun k hk => by simp [Value.ownBlock] at hk; omega
      have HS1 := hide (sortF_one (n + 1) l (by first | decide | omega))
      clear hr
      go_enter Try.func35, Try.ntmps35
      go_wp2_with (at_builtin; (with_reducible refine list_app (B := w.heap.size) (l := ([] : List Int)) (m := l) row_int (.slice (some ⟨w.heap.size, 0, none⟩) 0 0) ?_ (.tmp 15) (.tmp 16) ?_ ?_ ?_ ?_ HM1.out HM2.out ?_ ?_); (with_reducible rfl); (with_reducible rfl); rfl; (exact HE.out); (show RD _ _ (.slice A l.length c) _; exact HR.out.alloc _); (simp); intro v3 w3 ho3 hg3 hat3)
      go_ret2
      exact ⟨_, by rw [HS1.out]; rfl, by rw [HS1.out]; exact ho3, (Kp.app hg3 (Kp.refl w).alloc HHI).bel⟩
    · obtain ⟨x, t, hl⟩ : ∃ x t, l = x :: t := by
        cases l with
        | nil => simp at hl2
        | cons x t => exact ⟨x, t, rfl⟩
      have hlt : l.length = t.length + 1 := by rw [hl]; rfl
      obtain ⟨A, c, rfl, hc, hm⟩ := hr.shape
      obtain ⟨b, o, rfl, _, c0⟩ := hr.int (k := 0) (by omega)
      have hl0 : l[0]'(by omega) = x := by simp [hl]
      rw [hl0, Nat.add_zero] at c0
      have hif : (if c = 1 then some (⟨b, o, none⟩ : Addr) else some ⟨b, o + 1, none⟩) = some ⟨b, o + 1, none⟩ := if_neg (by omega)
      have hrt := hr.dropS (A' := some ⟨b, o + 1, none⟩) (k := 1) (by omega) rfl (by rw [show 1 * eInt.size = 1 from rfl]; exact hif)
      have hd1 : l.drop 1 = t := by rw [hl]; rfl
      have hd2 : l.length - 1 = t.length := by omega
      rw [hd1, hd2] at hrt
      have HRT := hide hrt
      have HF : Hid (sortF (n + 1) l = ((sortF n (lessL x t)).1 ++ [x] ++ (sortF n (moreL x t)).1, (sortF n (lessL x t)).2 + (sortF n (moreL x t)).2 + (l.length : Int) - 1)) := hide (by rw [hl]; exact sortF_more n x t (by omega))
      have hb1 : (1 : Int) ≤ (l.length : Int) := by omega
      have hb2 : ((l.length : Int) - 1).toNat = t.length := by omega
      have hcl1 := hd2
      have HLT := hide hlt
      have htc : t.length ≤ 1000 := by omega
      have hl2' : decide ((l.length : Int) < 2) = false := by simp; omega
      have HCL := hide (fun v W h => IH.out (lessL x t) v W (by have := lessL_len x t; omega) (by omega) h)
      have HCM := hide (fun v W h => IH.out (moreL x t) v W (by have := moreL_len x t; omega) (by omega) h)
      have hsl := sortF_len n (lessL x t)
      have hsm := sortF_len n (moreL x t)
      have hpl := parts_len x t
      have hcl := sortF_cnt n (lessL x t) (by omega)
      have hcm := sortF_cnt n (moreL x t) (by omega)
      obtain ⟨⟨la, ca⟩, hP1⟩ : ∃ P, P = sortF n (lessL x t) := ⟨_, rfl⟩
      obtain ⟨⟨lb, cb⟩, hP2⟩ : ∃ P, P = sortF n (moreL x t) := ⟨_, rfl⟩
      rw [← hP1] at HCL HF hsl hcl
      rw [← hP2] at HCM HF hsm hcm
      simp only at HCL HCM HF hsl hsm hcl hcm
      have hla : la.length + lb.length ≤ 1000 := by omega
      have hca : 0 ≤ ca ∧ ca ≤ 1000000 := by omega
      have hcb : 0 ≤ cb ∧ cb ≤ 1000000 := by omega
      clear hr hl0 hrt hd1 hl hP1 hP2 hsl hsm hpl hcl hcm hlt
      go_enter Try.func35, Try.ntmps35
      go_wp2
      go_loopw [4, 5, 21] (SoRel x t w) (fun _ _ i _ => t.length - (intOf i).toNat)
      case atStart => exact ⟨0, by omega, rfl, OW.nil, OW.nil, fun k h => by simp [Value.ownBlock] at h, Kp.refl _⟩
      case round =>
        obtain ⟨k, hk, rfl, hol, hom, hdis, hkp⟩ := hrel
        by_cases hlt : k < t.length
        · obtain ⟨b', o', e1, _, c1⟩ := (HRT.out.kp hkp).int hlt
          injection e1 with e1
          injection e1 with e2 e3
          subst e2 e3
          have c9 := hkp.cell c0
          have hil := hol.hi
          have him := hom.hi
          have hll := lessL_len x (t.take k)
          have hml := moreL_len x (t.take k)
          have hs1 := lessL_snoc x t k hlt
          have hs2 := moreL_snoc x t k hlt
          obtain ⟨X, hX⟩ : ∃ X, X = lessL x (t.take k) := ⟨_, rfl⟩
          obtain ⟨Y, hY⟩ : ∃ Y, Y = moreL x (t.take k) := ⟨_, rfl⟩
          obtain ⟨y, hy⟩ : ∃ y, y = t[k] := ⟨_, rfl⟩
          rw [← hX] at hol hs1 hll
          rw [← hY] at hom hs2 hml
          rw [← hy] at c1 hs1 hs2
          have hxl : X.length ≤ 1000 := by simp at hll; omega
          have hyl : Y.length ≤ 1000 := by simp at hml; omega
          have HLOL := hide hol.lo
          have HLOM := hide hom.lo
          obtain ⟨A4, c4, rfl, hc4, hm4⟩ := hol.rd.shape
          obtain ⟨A5, c5, rfl, hc5, hm5⟩ := hom.rd.shape
          have HOL := hide hol
          have HOM := hide hom
          have HDIS := hide hdis
          clear hll hml hX hY hy hol hom hdis
          by_cases hyx : y < x
          · rw [if_pos hyx] at hs1
            rw [if_pos hyx, List.append_nil] at hs2
            have HS1 := hide hs1
            have HS2 := hide hs2
            have HM1 : Hid ((X.length + [y].length) * 8 ≤ 140737488355328) := hide (by simp; omega)
            have HM2 : Hid (X.length + [y].length ≤ maxLen) := hide (by simp [maxLen]; omega)
            clear hs1 hs2
            go_wp2_with (at_builtin; (with_reducible refine list_app (B := w.heap.size) (l := X) (m := [y]) row_int (.slice A4 X.length c4) ?_ (.tmp 30) (.tmp 32) ?_ ?_ ?_ ?_ HM1.out HM2.out ?_ ?_); (with_reducible rfl); (with_reducible rfl); rfl; (exact HOL.out.alloc _); (show RD _ _ (.slice (some ⟨_, 0, none⟩) 1 1) _; (first | exact RD.new1 _ rfl | (refine RD.new1e _ ?_ rfl; simp; done))); (exact (hkp.alloc).size); intro v3 w3 ho3 hg3 hat3)
            go_roundw
            case rel => exact ⟨k + 1, by omega, by go_num, by rw [HS1.out]; exact ho3, by rw [HS2.out]; exact (HOM.out.alloc _).kept hg3 HDIS.out.symm.or, HDIS.out.next hat3 (HLOM.out.mono (by simp)), Kp.app hg3 hkp.alloc hil⟩
            case measure => simp [intOf]; omega
          · rw [if_neg hyx, List.append_nil] at hs1
            rw [if_neg hyx] at hs2
            have HS1 := hide hs1
            have HS2 := hide hs2
            have HM1 : Hid ((Y.length + [y].length) * 8 ≤ 140737488355328) := hide (by simp; omega)
            have HM2 : Hid (Y.length + [y].length ≤ maxLen) := hide (by simp [maxLen]; omega)
            have d1 : decide (y < x) = false := by simp; omega
            clear hs1 hs2 hyx
            go_wp2_with (at_builtin; (with_reducible refine list_app (B := w.heap.size) (l := Y) (m := [y]) row_int (.slice A5 Y.length c5) ?_ (.tmp 34) (.tmp 36) ?_ ?_ ?_ ?_ HM1.out HM2.out ?_ ?_); (with_reducible rfl); (with_reducible rfl); rfl; (exact HOM.out.alloc _); (show RD _ _ (.slice (some ⟨_, 0, none⟩) 1 1) _; (first | exact RD.new1 _ rfl | (refine RD.new1e _ ?_ rfl; simp; done))); (exact (hkp.alloc).size); intro v3 w3 ho3 hg3 hat3)
            go_roundw
            case rel => exact ⟨k + 1, by omega, by go_num, by rw [HS1.out]; exact (HOL.out.alloc _).kept hg3 HDIS.out.or, by rw [HS2.out]; exact ho3, (HDIS.out.symm.next hat3 (HLOL.out.mono (by simp))).symm, Kp.app hg3 hkp.alloc him⟩
            case measure => simp [intOf]; omega
        · have hS : t.take k = t := List.take_of_length_le (by omega)
          rw [hS] at hol hom
          have HOL := hide hol.rd
          have HOM := hide hom.rd
          have HKP := hide hkp
          have c9 := hkp.cell c0
          clear hS hol hom hdis
          go_wp2_with fail
          with_reducible refine (HCL.out _ _ HOL.out).mono ?_
          rintro e w1 ⟨v1, rfl, ho1, hb1⟩
          have kk1 := Kp.of hb1
          have HO1 := hide ho1
          clear ho1 hb1
          go_wp2_with fail
          with_reducible refine (HCM.out _ _ (HOM.out.kp kk1)).mono ?_
          rintro e w2 ⟨v2, rfl, ho2, hb2⟩
          have kk2 := Kp.of hb2
          have HO2 := hide ho2
          have c8 := (kk1.trans kk2).cell c9
          have hz1 := HKP.out.size
          have hz2 := kk1.size
          have HO1' : Hid (OW w2 w.heap.size 3 eInt v1 la) := hide ((HO1.out.kp kk2).more hz1)
          have HAP : Hid (Ap lb.length v2 v1) := hide (fun _ => Dis.or (u := v2) (v := v1) (fun k h1 h2 => by have h3 := (ho2.lt k h1).1; have h4 := (HO1.out.lt k h2).2; omega))
          have hi1 := HO1'.out.hi
          have HLO2 := hide ho2.lo
          have HM1 : Hid ((la.length + [x].length) * 8 ≤ 140737488355328) := hide (by simp; omega)
          have HM2 : Hid (la.length + [x].length ≤ maxLen) := hide (by simp [maxLen]; omega)
          have HM3 : Hid (((la ++ [x]).length + lb.length) * 8 ≤ 140737488355328) := hide (by simp; omega)
          have HM4 : Hid ((la ++ [x]).length + lb.length ≤ maxLen) := hide (by simp [maxLen]; omega)
          have KW2 : Kp w w2 := HKP.out.trans (kk1.trans kk2)
          have w5 : (IntKind.i64.wrap (ca + cb)) = ca + cb := IntWalk.i64_in _ (by omega)
          clear ho2 hb2 c9 c0
          go_wp2_with (first
            | (at_builtin; (with_reducible refine list_app (B := w.heap.size) (l := la) (m := [x]) row_int v1 ?_ (.tmp 49) (.tmp 53) ?_ ?_ ?_ ?_ HM1.out HM2.out ?_ ?_); (with_reducible rfl); (with_reducible rfl); rfl; (exact HO1'.out.alloc _); (show RD _ _ (.slice (some ⟨_, 0, none⟩) 1 1) _; (first | exact RD.new1 _ rfl | (refine RD.new1e _ ?_ rfl; simp; done))); (exact KW2.alloc.size); intro v3 w3 ho3 hg3 hat3)
            | (at_builtin; (with_reducible refine list_app (B := w.heap.size) (l := (la ++ [x])) (m := lb) row_int v3 ?_ (.tmp 54) (.tmp 55) ?_ ?_ ?_ ?_ HM3.out HM4.out ?_ ?_); (with_reducible rfl); (with_reducible rfl); rfl; (exact ho3); (show RD _ _ v2 _; exact RD.app (HO2.out.rd.alloc _) hg3 HAP.out); (exact (Kp.app hg3 KW2.alloc hi1).size); intro v4 w4 ho4 hg4 hat4))
          go_ret2
          refine ⟨v4, by rw [HF.out]; rfl, by rw [HF.out]; exact ho4, (Kp.app hg4 (Kp.app hg3 KW2.alloc hi1) ho3.hi).bel⟩
end Go.Proofs.Ytnallpdmdhbidaa
