/-
  grow.sorted, grow.Sort: what they answer. Conditions: the list reads as l (RD); of sorted: of at most 1000 keys.
  The spots of a tree that is written (grow.spots, vine.spots, ..), told: what they answer. Conditions: the tree as MR says; of spots: the variable holds a slice of the call's own (OB).
-/
import Derived.Test.YtnallpdmdhbidaaGrowFirstM25
import Derived.Test.YtnallpdmdhbidaaGrowFirstM24
import Derived.Test.YtnallpdmdhbidaaGrowFirstM8

namespace Go.Proofs.Ytnallpdmdhbidaa
open Go.ChangeShapes Go.WideShapes Go.ChangeAt Go.RowKit
set_option linter.unusedVariables false
set_option linter.unusedSimpArgs false

def sortF : Nat → List Int → List Int × Int
  | 0, l => (l, 0)
  | _ + 1, [] => ([], 0)
  | _ + 1, [x] => ([x], 0)
  | n + 1, x :: y :: t => ((sortF n (lessL x (y :: t))).1 ++ [x] ++ (sortF n (moreL x (y :: t))).1, (sortF n (lessL x (y :: t))).2 + (sortF n (moreL x (y :: t))).2 + ((x :: y :: t).length : Int) - 1)
theorem sortF_one (n : Nat) (l : List Int) (h : l.length < 2) : sortF n l = (l, 0) := by
  match n, l, h with
  | 0, _, _ => rfl
  | _ + 1, [], _ => rfl
  | _ + 1, [x], _ => rfl
theorem sortF_more (n : Nat) (x : Int) (t : List Int) (h : 0 < t.length) : sortF (n + 1) (x :: t) = ((sortF n (lessL x t)).1 ++ [x] ++ (sortF n (moreL x t)).1, (sortF n (lessL x t)).2 + (sortF n (moreL x t)).2 + ((x :: t).length : Int) - 1) := by
  match t, h with
  | y :: t, _ => rfl
theorem sortF_len : ∀ (n : Nat) (l : List Int), (sortF n l).1.length = l.length
  | 0, _ => rfl
  | _ + 1, [] => rfl
  | _ + 1, [x] => rfl
  | n + 1, x :: y :: t => by
    have := parts_len x (y :: t)
    simp only [sortF, List.length_append, sortF_len n, List.length_cons, List.length_nil] at this ⊢
    omega
theorem sortF_cnt : ∀ (n : Nat) (l : List Int), l.length ≤ 1000 → 0 ≤ (sortF n l).2 ∧ (sortF n l).2 ≤ 1000 * (l.length : Int)
  | 0, l, _ => by simp only [sortF]; omega
  | _ + 1, [], _ => by simp [sortF]
  | _ + 1, [x], _ => by simp [sortF]
  | n + 1, x :: y :: t, h => by
    have := parts_len x (y :: t)
    have h1 := sortF_cnt n (lessL x (y :: t)) (by simp only [List.length_cons] at h this; omega)
    have h2 := sortF_cnt n (moreL x (y :: t)) (by simp only [List.length_cons] at h this; omega)
    simp only [sortF, List.length_cons] at h this h1 h2 ⊢
    omega
def SortPost (r : List Int × Int) (w : World) (e : Ending) (w' : World) : Prop := ∃ v, e = .returned (.tuple #[v, .int .i64 r.2]) ∧ OW w' w.heap.size 3 eInt v r.1 ∧ Below w.heap.size w w'
set_option maxRecDepth 100000 in
set_option maxHeartbeats 8000000 in
theorem growSorted_any (n : Nat) : ∀ (l : List Int) (v : Value) (w : World), l.length ≤ n → n ≤ 1000 → RD w eInt v l → Calls Try.prog 35 #[v] w (SortPost (sortF n l) w) := by
  induction n with
  | zero =>
    intro l v w h1 h2 hr
    obtain rfl : l = [] := List.eq_nil_of_length_eq_zero (by omega)
    obtain ⟨A, c, rfl, hc, hm⟩ := hr.shape
    have HR := hide hr
    have HM1 : Hid ((([] : List Int).length + ([] : List Int).length) * 8 ≤ 140737488355328) := hide (by simp <;> omega)
    have HM2 : Hid (([] : List Int).length + ([] : List Int).length ≤ maxLen) := hide (by simp [maxLen] <;> omega)
    have HE : Hid (OW (w.alloc (.cells #[] 3)) w.heap.size 3 eInt (.slice (some ⟨w.heap.size, 0, none⟩) 0 0) ([] : List Int)) := hide (OW.empty (Nat.le_refl _))
    have HHI : Hi w.heap.size (.slice (some ⟨w.heap.size, 0, none⟩) 0 0) := fun k hk => by simp [Value.ownBlock] at hk; omega
    have HS1 := hide (sortF_one 0 ([] : List Int) (by first | decide | omega))
    clear hr
    go_enter Try.func35, Try.ntmps35
    go_wp2_with (at_builtin; (with_reducible refine list_app (B := w.heap.size) (l := ([] : List Int)) (m := ([] : List Int)) row_int (.slice (some ⟨w.heap.size, 0, none⟩) 0 0) ?_ (.tmp 15) (.tmp 16) ?_ ?_ ?_ ?_ HM1.out HM2.out ?_ ?_); (with_reducible rfl); (with_reducible rfl); rfl; (exact HE.out); (show RD _ _ (.slice A ([] : List Int).length c) _; exact HR.out.alloc _); (simp); intro v3 w3 ho3 hg3 hat3)
    go_ret2
    exact ⟨_, by rw [HS1.out]; rfl, by rw [HS1.out]; exact ho3, (Kp.app hg3 (Kp.refl w).alloc HHI).bel⟩
  | succ n ih =>
    intro l v w h1 h2 hr
    have IH := hide ih
    clear ih
    by_cases hl2 : l.length < 2
    · have HS := hide (sortF_one (n + 1) l hl2)
      obtain ⟨A, c, rfl, hc, hm⟩ := hr.shape
      have HR := hide hr
      have HM1 : Hid ((([] : List Int).length + l.length) * 8 ≤ 140737488355328) := hide (by simp <;> omega)
      have HM2 : Hid (([] : List Int).length + l.length ≤ maxLen) := hide (by simp [maxLen] <;> omega)
      have HE : Hid (OW (w.alloc (.cells #[] 3)) w.heap.size 3 eInt (.slice (some ⟨w.heap.size, 0, none⟩) 0 0) ([] : List Int)) := hide (OW.empty (Nat.le_refl _))
      have HHI : Hi w.heap.size (.slice (some ⟨w.heap.size, 0, none⟩) 0 0) := fun k hk => by simp [Value.ownBlock] at hk; omega
      have HS1 := hide (sortF_one (n + 1) l (by first | decide | omega))
      clear hr
      go_enter Try.func35, Try.ntmps35
      go_wp2_with (at_builtin; (with_reducible refine list_app (B := w.heap.size) (l := ([] : List Int)) (m := l) row_int (.slice (some ⟨w.heap.size, 0, none⟩) 0 0) ?_ (.tmp 15) (.tmp 16) ?_ ?_ ?_ ?_ HM1.out HM2.out ?_ ?_); (with_reducible rfl); (with_reducible rfl); rfl; (exact HE.out); (show RD _ _ (.slice A l.length c) _; exact HR.out.alloc _); (simp); intro v3 w3 ho3 hg3 hat3)
      go_ret2
      exact ⟨_, by rw [HS1.out]; rfl, by rw [HS1.out]; exact ho3, (Kp.app hg3 (Kp.refl w).alloc HHI).bel⟩
    · obtain ⟨x, t, hl⟩ : ∃ x t, l = x :: t := by
        cases l with
        | nil => simp at hl2
        | cons x t => exact ⟨x, t, rfl⟩
      have hlt : l.length = t.length + 1 := by rw [hl]; rfl
      obtain ⟨A, c, rfl, hc, hm⟩ := hr.shape
      obtain ⟨b, o, rfl, _, c0⟩ := hr.int (k := 0) (by omega)
      have hl0 : l[0]'(by omega) = x := by simp [hl]
      rw [hl0, Nat.add_zero] at c0
      have hif : (if c = 1 then some (⟨b, o, none⟩ : Addr) else some ⟨b, o + 1, none⟩) = some ⟨b, o + 1, none⟩ := if_neg (by omega)
      have hrt := hr.dropS (A' := some ⟨b, o + 1, none⟩) (k := 1) (by omega) rfl (by rw [show 1 * eInt.size = 1 from rfl]; exact hif)
      have hd1 : l.drop 1 = t := by rw [hl]; rfl
      have hd2 : l.length - 1 = t.length := by omega
      rw [hd1, hd2] at hrt
      have HRT := hide hrt
      have HF : Hid (sortF (n + 1) l = ((sortF n (lessL x t)).1 ++ [x] ++ (sortF n (moreL x t)).1, (sortF n (lessL x t)).2 + (sortF n (moreL x t)).2 + (l.length : Int) - 1)) := hide (by rw [hl]; exact sortF_more n x t (by omega))
      have hb1 : (1 : Int) ≤ (l.length : Int) := by omega
      have hb2 : ((l.length : Int) - 1).toNat = t.length := by omega
      have hcl1 := hd2
      have HLT := hide hlt
      have htc : t.length ≤ 1000 := by omega
      have hl2' : decide ((l.length : Int) < 2) = false := by simp; omega
      have HCL := hide (fun v W h => IH.out (lessL x t) v W (by have := lessL_len x t; omega) (by omega) h)
      have HCM := hide (fun v W h => IH.out (moreL x t) v W (by have := moreL_len x t; omega) (by omega) h)
      have hsl := sortF_len n (lessL x t)
      have hsm := sortF_len n (moreL x t)
      have hpl := parts_len x t
      have hcl := sortF_cnt n (lessL x t) (by omega)
      have hcm := sortF_cnt n (moreL x t) (by omega)
      obtain ⟨⟨la, ca⟩, hP1⟩ : ∃ P, P = sortF n (lessL x t) := ⟨_, rfl⟩
      obtain ⟨⟨lb, cb⟩, hP2⟩ : ∃ P, P = sortF n (moreL x t) := ⟨_, rfl⟩
      rw [← hP1] at HCL HF hsl hcl
      rw [← hP2] at HCM HF hsm hcm
      simp only at HCL HCM HF hsl hsm hcl hcm
      have hla : la.length + lb.length ≤ 1000 := by omega
      have hca : 0 ≤ ca ∧ ca ≤ 1000000 := by omega
      have hcb : 0 ≤ cb ∧ cb ≤ 1000000 := by omega
      clear hr hl0 hrt hd1 hl hP1 hP2 hsl hsm hpl hcl hcm hlt
      go_enter Try.func35, Try.ntmps35
      go_wp2
      go_loopw [4, 5, 21] (SoRel x t w) (fun _ _ i _ => t.length - (intOf i).toNat)
      case atStart => exact ⟨0, by omega, rfl, OW.nil, OW.nil, fun k h => by simp [Value.ownBlock] at h, Kp.refl _⟩
      case round =>
        obtain ⟨k, hk, rfl, hol, hom, hdis, hkp⟩ := hrel
        by_cases hlt : k < t.length
        · obtain ⟨b', o', e1, _, c1⟩ := (HRT.out.kp hkp).int hlt
          injection e1 with e1
          injection e1 with e2 e3
          subst e2 e3
          have c9 := hkp.cell c0
          have hil := hol.hi
          have him := hom.hi
          have hll := lessL_len x (t.take k)
          have hml := moreL_len x (t.take k)
          have hs1 := lessL_snoc x t k hlt
          have hs2 := moreL_snoc x t k hlt
          obtain ⟨X, hX⟩ : ∃ X, X = lessL x (t.take k) := ⟨_, rfl⟩
          obtain ⟨Y, hY⟩ : ∃ Y, Y = moreL x (t.take k) := ⟨_, rfl⟩
          obtain ⟨y, hy⟩ : ∃ y, y = t[k] := ⟨_, rfl⟩
          rw [← hX] at hol hs1 hll
          rw [← hY] at hom hs2 hml
          rw [← hy] at c1 hs1 hs2
          have hxl : X.length ≤ 1000 := by simp at hll; omega
          have hyl : Y.length ≤ 1000 := by simp at hml; omega
          have HLOL := hide hol.lo
          have HLOM := hide hom.lo
          obtain ⟨A4, c4, rfl, hc4, hm4⟩ := hol.rd.shape
          obtain ⟨A5, c5, rfl, hc5, hm5⟩ := hom.rd.shape
          have HOL := hide hol
          have HOM := hide hom
          have HDIS := hide hdis
          clear hll hml hX hY hy hol hom hdis
          by_cases hyx : y < x
          · rw [if_pos hyx] at hs1
            rw [if_pos hyx, List.append_nil] at hs2
            have HS1 := hide hs1
            have HS2 := hide hs2
            have HM1 : Hid ((X.length + [y].length) * 8 ≤ 140737488355328) := hide (by simp; omega)
            have HM2 : Hid (X.length + [y].length ≤ maxLen) := hide (by simp [maxLen]; omega)
            clear hs1 hs2
            go_wp2_with (at_builtin; (with_reducible refine list_app (B := w.heap.size) (l := X) (m := [y]) row_int (.slice A4 X.length c4) ?_ (.tmp 30) (.tmp 32) ?_ ?_ ?_ ?_ HM1.out HM2.out ?_ ?_); (with_reducible rfl); (with_reducible rfl); rfl; (exact HOL.out.alloc _); (show RD _ _ (.slice (some ⟨_, 0, none⟩) 1 1) _; (first | exact RD.new1 _ rfl | (refine RD.new1e _ ?_ rfl; simp; done))); (exact (hkp.alloc).size); intro v3 w3 ho3 hg3 hat3)
            go_roundw
            case rel => exact ⟨k + 1, by omega, by go_num, by rw [HS1.out]; exact ho3, by rw [HS2.out]; exact (HOM.out.alloc _).kept hg3 HDIS.out.symm.or, HDIS.out.next hat3 (HLOM.out.mono (by simp)), Kp.app hg3 hkp.alloc hil⟩
            case measure => simp [intOf]; omega
          · rw [if_neg hyx, List.append_nil] at hs1
            rw [if_neg hyx] at hs2
            have HS1 := hide hs1
            have HS2 := hide hs2
            have HM1 : Hid ((Y.length + [y].length) * 8 ≤ 140737488355328) := hide (by simp; omega)
            have HM2 : Hid (Y.length + [y].length ≤ maxLen) := hide (by simp [maxLen]; omega)
            have d1 : decide (y < x) = false := by simp; omega
            clear hs1 hs2 hyx
            go_wp2_with (at_builtin; (with_reducible refine list_app (B := w.heap.size) (l := Y) (m := [y]) row_int (.slice A5 Y.length c5) ?_ (.tmp 34) (.tmp 36) ?_ ?_ ?_ ?_ HM1.out HM2.out ?_ ?_); (with_reducible rfl); (with_reducible rfl); rfl; (exact HOM.out.alloc _); (show RD _ _ (.slice (some ⟨_, 0, none⟩) 1 1) _; (first | exact RD.new1 _ rfl | (refine RD.new1e _ ?_ rfl; simp; done))); (exact (hkp.alloc).size); intro v3 w3 ho3 hg3 hat3)
            go_roundw
            case rel => exact ⟨k + 1, by omega, by go_num, by rw [HS1.out]; exact (HOL.out.alloc _).kept hg3 HDIS.out.or, by rw [HS2.out]; exact ho3, (HDIS.out.symm.next hat3 (HLOL.out.mono (by simp))).symm, Kp.app hg3 hkp.alloc him⟩
            case measure => simp [intOf]; omega
        · have hS : t.take k = t := List.take_of_length_le (by omega)
          rw [hS] at hol hom
          have HOL := hide hol.rd
          have HOM := hide hom.rd
          have HKP := hide hkp
          have c9 := hkp.cell c0
          clear hS hol hom hdis
          go_wp2_with fail
          with_reducible refine (HCL.out _ _ HOL.out).mono ?_
          rintro e w1 ⟨v1, rfl, ho1, hb1⟩
          have kk1 := Kp.of hb1
          have HO1 := hide ho1
          clear ho1 hb1
          go_wp2_with fail
          with_reducible refine (HCM.out _ _ (HOM.out.kp kk1)).mono ?_
          rintro e w2 ⟨v2, rfl, ho2, hb2⟩
          have kk2 := Kp.of hb2
          have HO2 := hide ho2
          have c8 := (kk1.trans kk2).cell c9
          have hz1 := HKP.out.size
          have hz2 := kk1.size
          have HO1' : Hid (OW w2 w.heap.size 3 eInt v1 la) := hide ((HO1.out.kp kk2).more hz1)
          have HAP : Hid (Ap lb.length v2 v1) := hide (fun _ => Dis.or (u := v2) (v := v1) (fun k h1 h2 => by have h3 := (ho2.lt k h1).1; have h4 := (HO1.out.lt k h2).2; omega))
          have hi1 := HO1'.out.hi
          have HLO2 := hide ho2.lo
          have HM1 : Hid ((la.length + [x].length) * 8 ≤ 140737488355328) := hide (by simp; omega)
          have HM2 : Hid (la.length + [x].length ≤ maxLen) := hide (by simp [maxLen]; omega)
          have HM3 : Hid (((la ++ [x]).length + lb.length) * 8 ≤ 140737488355328) := hide (by simp; omega)
          have HM4 : Hid ((la ++ [x]).length + lb.length ≤ maxLen) := hide (by simp [maxLen]; omega)
          have KW2 : Kp w w2 := HKP.out.trans (kk1.trans kk2)
          have w5 : (IntKind.i64.wrap (ca + cb)) = ca + cb := IntWalk.i64_in _ (by omega)
          clear ho2 hb2 c9 c0
          go_wp2_with (first
            | (at_builtin; (with_reducible refine list_app (B := w.heap.size) (l := la) (m := [x]) row_int v1 ?_ (.tmp 49) (.tmp 53) ?_ ?_ ?_ ?_ HM1.out HM2.out ?_ ?_); (with_reducible rfl); (with_reducible rfl); rfl; (exact HO1'.out.alloc _); (show RD _ _ (.slice (some ⟨_, 0, none⟩) 1 1) _; (first | exact RD.new1 _ rfl | (refine RD.new1e _ ?_ rfl; simp; done))); (exact KW2.alloc.size); intro v3 w3 ho3 hg3 hat3)
            | (at_builtin; (with_reducible refine list_app (B := w.heap.size) (l := (la ++ [x])) (m := lb) row_int v3 ?_ (.tmp 54) (.tmp 55) ?_ ?_ ?_ ?_ HM3.out HM4.out ?_ ?_); (with_reducible rfl); (with_reducible rfl); rfl; (exact ho3); (show RD _ _ v2 _; exact RD.app (HO2.out.rd.alloc _) hg3 HAP.out); (exact (Kp.app hg3 KW2.alloc hi1).size); intro v4 w4 ho4 hg4 hat4))
          go_ret2
          refine ⟨v4, by rw [HF.out]; rfl, by rw [HF.out]; exact ho4, (Kp.app hg4 (Kp.app hg3 KW2.alloc hi1) ho3.hi).bel⟩
end Go.Proofs.Ytnallpdmdhbidaa
namespace Go.Proofs.Ytnallpdmdhbidaa
open Go.ChangeShapes Go.WideShapes Go.ChangeAt Go.RowKit
set_option linter.unusedVariables false
set_option linter.unusedSimpArgs false

def MT.spotsBy {α : Type} (key : α → Int) : MT α → Int → List IP
  | .nil, _ => []
  | .node a l r, d => l.spotsBy key (d + 1) ++ [(key a, d)] ++ r.spotsBy key (d + 1)
theorem MT.spotsBy_len {α : Type} (key : α → Int) : ∀ (t : MT α) (d : Int), (t.spotsBy key d).length = t.size
  | .nil, _ => rfl
  | .node a l r, d => by simp [spotsBy, size, spotsBy_len key l, spotsBy_len key r]; omega
set_option maxRecDepth 100000 in
set_option maxHeartbeats 4000000 in
theorem grow_spots_any (g B : Nat) (hg : B ≤ g) : ∀ (t : MT IP) (p : Option Addr) (F : List Nat) (d : Int) (acc : List IP) (w : World), MR w 92 ePair t p F → 0 ≤ d → d + t.size ≤ 1000000 → acc.length + t.size ≤ 1000000 →
    OB w B g 24 38 ePair acc → B ≤ w.heap.size →
    Calls Try.prog 46 #[.pointer p, .int .i64 d, .pointer (some ⟨g, 0, none⟩)] w (WPost B g 24 38 ePair (.tuple #[]) (acc ++ t.spotsBy Prod.fst d) w)
  | .nil, p, F, d, acc, w, hm, h1, h2, h3, ho, hB => by
    obtain ⟨rfl, rfl⟩ := hm
    have HO := hide ho
    clear ho
    go_enter Try.func46, Try.ntmps46
    go_wp2
    obtain ⟨u, hb, hu, hn⟩ := HO.out
    exact bodyPost_ret (v := .tuple #[]) (by simp [results, Try.results46, go_sem]) rfl ⟨rfl, by simpa [MT.spotsBy] using HO.out, KO.refl (hb.cell 0)⟩
  | .node a l r, p, F, d, acc, w, hm, h1, h2, h3, ho, hB => by
    obtain ⟨b, pl, pr, Fl, Fr, rfl, rfl, hbc, _, _, _, hml, hmr⟩ := hm
    simp only [MT.size] at h2 h3
    have hll := MT.spotsBy_len Prod.fst l (d + 1)
    have HI := hide (fun F acc w hm h3 ho hB => grow_spots_any g B hg l pl F (d + 1) acc w hm (by omega) (by omega) h3 ho hB)
    have HJ := hide (fun F acc w hm h3 ho hB => grow_spots_any g B hg r pr F (d + 1) acc w hm (by omega) (by omega) h3 ho hB)
    have HBC := hide hbc
    have HML := hide hml
    have HMR := hide hmr
    have HO := hide ho
    have HBh := hide hB
    have cL : w.cell? ⟨b, 2, none⟩ = some (.pointer pl) := hbc.cell 2
    have hw : IntKind.i64.wrap (d + 1) = d + 1 := IntWalk.i64_in _ (by omega)
    clear hml hmr ho hbc
    go_enter Try.func46, Try.ntmps46
    go_wp2_with fail
    with_reducible refine (HI.out _ acc _ HML.out (by omega) HO.out HBh.out).mono ?_
    rintro e w5 ⟨rfl, ho5, hk5⟩
    have HO5 := hide ho5
    have HBC5 := hide (HBC.out.ko HO.out hk5 (by decide) (by decide))
    have HMR5 := hide (HMR.out.ko HO.out hk5 (by decide) (by decide))
    have HB5 : Hid (B ≤ w5.heap.size) := hide (Nat.le_trans HBh.out hk5.size)
    have HK5 := hide hk5
    clear ho5 hk5 cL
    obtain ⟨u5, hb5, hu5, hn5⟩ := HO5.out
    have d0 : w5.cell? ⟨b, 0, none⟩ = some (.int .i64 (Prod.fst a)) := HBC5.out.cell 0
    have hblk : u5.ownBlock ≠ some b := hu5.bc_ne HBC5.out (by decide)
    obtain ⟨acc5, hacc⟩ : ∃ x, x = acc ++ l.spotsBy Prod.fst (d + 1) := ⟨_, rfl⟩
    have hal : acc5.length = acc.length + l.size := by rw [hacc, List.length_append, hll]
    have HACC := hide hacc
    rw [← hacc] at hu5
    have HAL := hide hal
    have HM1 : Hid ((acc5.length + [((Prod.fst a, d) : IP)].length) * 16 ≤ 140737488355328) := hide (by simp; omega)
    have HM2 : Hid (acc5.length + [((Prod.fst a, d) : IP)].length ≤ maxLen) := hide (by simp [maxLen]; omega)
    clear hacc hal hll
    have KS : Hid (∀ W', KV u5 w5 W' → (W'.cell? ⟨b, 0, none⟩ = some (.int .i64 (Prod.fst a)) ∧ W'.cell? ⟨g, 0, none⟩ = some u5 ∧ W'.frozen? ⟨g, 0, none⟩ = false ∧ KV u5 w5 W')) := hide fun W' h => ⟨h.cell hblk d0, h.cell hn5 (hb5.cell 0), (h.frozen hb5.lt hn5).trans (hb5.frozen 0), h⟩
    have g0 := hb5.cell 0
    have f0 := hb5.frozen 0
    have L1 : ∀ n o, ((w5.drewN n).alloc o).cell? ⟨g, 0, none⟩ = some u5 := fun n o => ((Kp.refl w5).drewN.alloc).cell g0
    have L2 : ∀ n o', ((w5.drewN n).alloc o').cell? ⟨b, 0, none⟩ = some (.int .i64 (Prod.fst a)) := fun n o' => ((Kp.refl w5).drewN.alloc).cell d0
    have L3 : ∀ o, (w5.drew.alloc o).cell? ⟨g, 0, none⟩ = some u5 := fun o => ((Kp.refl w5).drew.alloc).cell g0
    have L4 : ∀ o', (w5.drew.alloc o').cell? ⟨b, 0, none⟩ = some (.int .i64 (Prod.fst a)) := fun o' => ((Kp.refl w5).drew.alloc).cell d0
    have L5 : ∀ o, ((w5.alloc o).drew).cell? ⟨g, 0, none⟩ = some u5 := fun o => ((Kp.refl w5).alloc.drew).cell g0
    have L6 : ∀ o', ((w5.alloc o').drew).cell? ⟨b, 0, none⟩ = some (.int .i64 (Prod.fst a)) := fun o' => ((Kp.refl w5).alloc.drew).cell d0
    have L7 : ∀ o, (w5.alloc o).cell? ⟨g, 0, none⟩ = some u5 := fun o => ((Kp.refl w5).alloc).cell g0
    have L8 : ∀ o', (w5.alloc o').cell? ⟨b, 0, none⟩ = some (.int .i64 (Prod.fst a)) := fun o' => ((Kp.refl w5).alloc).cell d0
    go_wp2_with fail
    go_region_law (((with_reducible refine step_app (l := acc5) (m := [((Prod.fst a, d) : IP)]) row_spot u5 ?_ (.tmp 19) (.tmp 27) ?_ ?_ ?_ ?_ HM1.out HM2.out (Nat.le_trans HB5.out (KV.size (w := w5) (v := u5) ?_)) ?_); (with_reducible rfl); (with_reducible rfl); rfl; (focus ((repeat (first | (with_reducible assumption) | (with_reducible apply OW.alloc) | (with_reducible apply OW.drew) | (with_reducible apply OW.drewN) | ((with_reducible apply OW.setCellR); (with_reducible assumption)) | ((with_reducible apply OW.belowR); (with_reducible assumption)) | ((with_reducible apply OW.keptR); (with_reducible assumption); (with_reducible assumption)))); done)); (show RD _ _ (.slice (some ⟨_, 0, none⟩) 1 1) _; (focus ((repeat (first | (with_reducible assumption) | exact RD.new1 _ rfl | (refine RD.new1e _ ?_ rfl; simp; done) | (with_reducible apply RD.alloc) | (with_reducible apply RD.drew) | (with_reducible apply RD.drewN) | ((with_reducible apply RD.belowR); (with_reducible assumption)))); done))); (go_split_ands; (focus ((repeat (first | (with_reducible assumption) | (with_reducible exact KV.refl _ _) | (with_reducible apply KV.drew) | (with_reducible apply KV.drewN) | (with_reducible apply KV.alloc) | ((with_reducible apply KV.call); (with_reducible assumption)) | ((with_reducible apply KV.app); (with_reducible assumption)))); done))); intro v3 w3 ho3 hg3 hat3; obtain ⟨_, sc3, sf3, _⟩ := KS.out w3 (by go_split_ands; (focus ((repeat (first | (with_reducible assumption) | (with_reducible exact KV.refl _ _) | (with_reducible apply KV.drew) | (with_reducible apply KV.drewN) | (with_reducible apply KV.alloc) | ((with_reducible apply KV.call); (with_reducible assumption)) | ((with_reducible apply KV.app); (with_reducible assumption)))); done))); obtain ⟨A3, N3, c3, rfl⟩ := ho3.rd.slice))
    all_goals
      have hat9 := hat3.imp id (fun e => show Hi w5.heap.size (Value.slice A3 N3 c3) from fun k hk => by rw [e] at hk; injection hk with hk; subst hk; simp <;> omega)
      obtain ⟨ho4, hk4⟩ := ob_app hb5 hu5 hn5 (show KV u5 w5 w3 by (focus ((repeat (first | (with_reducible assumption) | (with_reducible exact KV.refl _ _) | (with_reducible apply KV.drew) | (with_reducible apply KV.drewN) | (with_reducible apply KV.alloc) | ((with_reducible apply KV.call); (with_reducible assumption)) | ((with_reducible apply KV.app); (with_reducible assumption)))); done))) ho3 hat9
      clear hat9 hat3 hg3 ho3 sc3 sf3 L1 L2 L3 L4 L5 L6 L7 L8 g0 f0
      have HBC6 := hide (HBC5.out.ko HO5.out hk4 (by decide) (by decide))
      have HMR6 := hide (HMR5.out.ko HO5.out hk4 (by decide) (by decide))
      have HZ6 := hide hk4.size
      have HO6 := hide ho4
      have HK6 := hide (HK5.out.trans hk4)
      have cR := HBC6.out.cell 3
      simp only [nodeC, ePair, List.cons_append, List.nil_append, List.getElem?_cons_succ, List.getElem?_cons_zero] at cR
      clear ho4 hk4
      go_wp2_with fail
      with_reducible refine (HJ.out _ (acc5 ++ [((Prod.fst a, d) : IP)]) _ HMR6.out (by simp only [List.length_append, List.length_cons, List.length_nil]; have := HAL.out; omega) HO6.out (Nat.le_trans HB5.out HZ6.out)).mono ?_
      rintro e w7 ⟨rfl, ho7, hk7⟩
      have HO7 := hide ho7
      have HK7 := hide (HK6.out.trans hk7)
      clear ho7 hk7
      go_wp2
      exact bodyPost_ret (v := .tuple #[]) (by simp [results, Try.results46, go_sem]) rfl ⟨rfl, by have h := HO7.out; rw [HACC.out] at h; simpa [MT.spotsBy, List.append_assoc] using h, HK7.out⟩
end Go.Proofs.Ytnallpdmdhbidaa
