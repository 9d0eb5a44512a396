/-
  best.Roots: what it answers. Conditions: the lists read as they are named (RD).
-/
import Derived.Test.YtpmhpogkpkhbfaaBTree
import Derived.Test.YtpmhpogkpkhbfaaOws
namespace Go.Proofs.Ytpmhpogkpkhbfaa
open Go.ChangeShapes Go.WideShapes Go.ChangeAt Go.RowKit
set_option linter.unusedVariables false
set_option linter.unusedSimpArgs false

def rowB (T : Nat → Nat → Int) (n k : Nat) : List Int := ((List.range (n + 1)).map (T k)).drop (k + 1)
def rowsB (T : Nat → Nat → Int) (n : Nat) : List (List Int) := (List.range n).map (rowB T n)
def rtB (hits gaps : List Int) : List (List Int) × Int := if brR hits gaps = 0 then (rowsB (bt (gD hits) (gD gaps)) hits.length, 0) else ([], brR hits gaps)
theorem rowB_len {T : Nat → Nat → Int} {n k : Nat} : (rowB T n k).length = n - k := by
  unfold rowB
  rw [List.length_drop, List.length_map, List.length_range]; omega
theorem rowB_at {T : Nat → Nat → Int} {n k q : Nat} (h : q < (rowB T n k).length) : (rowB T n k)[q] = T k (k + 1 + q) := by
  simp only [rowB, List.getElem_drop, List.getElem_map, List.getElem_range]
theorem rowB_congr {T T' : Nat → Nat → Int} {n k : Nat} (h : ∀ j, k < j → j ≤ n → T k j = T' k j) : rowB T n k = rowB T' n k := by
  apply List.ext_getElem (by rw [rowB_len, rowB_len])
  intro q h1 h2
  rw [rowB_at, rowB_at]
  rw [rowB_len] at h1
  exact h _ (by omega) (by omega)
def RrPost (r : List (List Int) × Int) (w : World) (e : Ending) (w' : World) : Prop := ∃ v, e = .returned (.tuple #[v, .int .i64 r.2]) ∧ RDS w' eInt v r.1 ∧ Kp w w'
def RtRel (T : Nat → Nat → Int) (n : Nat) (w : World) (ov iv : Value) (wr : World) : Prop := ∃ k : Nat, k ≤ n ∧ iv = .int .i64 (k : Int) ∧ OWS wr w.heap.size 22 3 eInt ov ((rowsB T n).take k) ∧ Kp w wr
set_option maxRecDepth 100000 in
set_option maxHeartbeats 8000000 in
theorem bRoots_any (hits gaps : List Int) (v u : Value) (w : World) (hr : RD w eInt v hits) (hu : RD w eInt u gaps) : Calls Try.prog 12 #[v, u] w (RrPost (rtB hits gaps) w) := by
  have HRI := hide (right_any hits gaps v u w hr hu)
  obtain ⟨A1, c1, rfl, _, _⟩ := hr.shape
  obtain ⟨A2, c2, rfl, _, _⟩ := hu.shape
  have HR := hide hr
  have HU := hide hu
  clear hr hu
  by_cases he : brR hits gaps = 0
  · obtain ⟨b1, b2, b3, b4⟩ := brR_ok he
    rw [he] at HRI
    have HFI := hide (fun W v u h1 h2 => filled_any hits gaps v u W h1 h2 b1 b2 b3 b4)
    have HE := hide (show rtB hits gaps = _ from if_pos he)
    obtain ⟨n, hn⟩ : ∃ n, n = hits.length := ⟨_, rfl⟩
    obtain ⟨h, hh⟩ : ∃ h, h = gD hits := ⟨_, rfl⟩
    obtain ⟨g, hg⟩ : ∃ g, g = gD gaps := ⟨_, rfl⟩
    rw [← hh, ← hg, ← hn] at HFI HE
    rw [← hn] at b1
    have hn20 := b1
    rw [← hn]
    have HN := hide hn
    clear he hh hg b1 b2 b3 b4
    rw [← hn] at HR HRI
    clear hn
    go_enter Try.func12, Try.ntmps12
    go_wp2_with fail
    with_reducible refine HRI.out.mono ?_
    rintro e w1 ⟨rfl, hb1⟩
    have kk1 : Kp w w1 := Kp.of hb1
    clear hb1
    go_wp2_with fail
    with_reducible refine (HFI.out w1 _ _ (HR.out.kp kk1) (HU.out.kp kk1)).mono ?_
    rintro e w2 ⟨x1, x3, P2, N2, C2, M, rfl, hx1, hx3, hM, kk2⟩
    obtain ⟨P1, C1, rfl, _, _⟩ := hx1.shape
    obtain ⟨P3, C3, rfl, _, _⟩ := hx3.shape
    have HX3 := hide hx3
    have HM := hide hM
    have K2 := hide (kk1.trans kk2)
    simp only [List.length_map, List.length_range] at HX3 ⊢
    clear hx1 hx3 hM kk1 kk2
    go_wp2_with fail
    obtain ⟨W, hW⟩ : ∃ W, W = w2.alloc (.cells #[.slice P1 (n + 1) C1, .slice P2 N2 C2, .slice P3 (n + 1) C3] 56) := ⟨_, rfl⟩
    have hbx : BC W w2.heap.size 56 [.slice P1 (n + 1) C1, .slice P2 N2 C2, .slice P3 (n + 1) C3] := by rw [hW]; exact BC.new w2 _ [_, _, _]
    have hkx : Kp w2 W := by rw [hW]; exact (Kp.refl _).alloc
    rw [← hW]
    have HY := hide (hbx.cell 2)
    have HXW : Hid (RDS W eInt (.slice P3 (n + 1) C3) (tabL (M 2) (n + 1))) := hide (HX3.out.kp hkx)
    have KW := hide (K2.out.trans hkx)
    have HRW : Hid (rowsB (M 2) n = rowsB (bt h g) n) := hide (by
      unfold rowsB
      apply List.map_congr_left
      intro k hk
      exact rowB_congr fun j h1 h2 => (HM.out k j (by omega) h2).2 h1)
    clear hW hbx hkx
    go_loopw [8, 21] (RtRel (M 2) n W) (fun _ k _ => n - (intOf k).toNat)
    case atStart => exact ⟨0, by omega, rfl, OWS.nil, Kp.refl _⟩
    case round =>
      obtain ⟨k, hk, rfl, hows, hkp⟩ := hrel
      have HKP := hide hkp
      by_cases hlt : k < n
      · obtain ⟨b, o, u0, hA, _, cu, hu0⟩ := (HXW.out.kp hkp).at_ (k := k) (by rw [tabL_len]; omega)
        have hrow : (tabL (M 2) (n + 1))[k]'(by rw [tabL_len]; omega) = (List.range (n + 1)).map (M 2 k) := by simp [tabL]
        rw [hrow] at hu0
        subst hA
        obtain ⟨A3, cc, rfl, hcc1, hcc2⟩ := hu0.shape
        obtain ⟨b', o', rfl, _, _⟩ := hu0.int (k := 0) (by simp)
        simp only [List.length_map, List.length_range] at hu0 cu hcc1
        obtain ⟨k1, hk1⟩ : ∃ k1, k1 = k + 1 := ⟨_, rfl⟩
        have s1 : IntKind.i64.wrap ((k : Int) + 1) = (k1 : Int) := by rw [IntWalk.i64_in _ (by omega)]; omega
        have hd := hu0.dropS (k := k1) (by simp; omega) (A' := some ⟨b', o' + k1, none⟩) (s := 1) rfl (by rw [if_neg (by omega), Nat.mul_one])
        simp only [List.length_map, List.length_range] at hd
        have hrb : ((List.range (n + 1)).map (M 2 k)).drop k1 = rowB (M 2) n k := by rw [hk1]; rfl
        rw [hrb] at hd
        have y2 : wr.cell? ⟨w2.heap.size, 2, none⟩ = some (.slice (some ⟨b, o, none⟩) (n + 1) C3) := hkp.cell HY.out
        have y3 := ((Kp.refl wr).alloc (o := .cells #[] 3)).cell y2
        have cu3 := ((Kp.refl wr).alloc (o := .cells #[] 3)).cell cu
        have hrl := rowB_len (T := M 2) (n := n) (k := k)
        have HST : Hid ((rowsB (M 2) n).take k ++ [rowB (M 2) n k] = (rowsB (M 2) n).take (k + 1)) := hide (by
          have hl : k < (rowsB (M 2) n).length := by simp [rowsB]; exact hlt
          rw [List.take_succ_eq_append_getElem hl]
          congr 2
          simp [rowsB])
        obtain ⟨RB, hRB⟩ : ∃ RB, RB = rowB (M 2) n k := ⟨_, rfl⟩
        rw [← hRB] at hd hrl HST
        obtain ⟨vs, hv, hvl, hin⟩ := hows
        have hvk : vs.length ≤ 20 := by rw [hvl]; simp; omega
        obtain ⟨A6, c6, hu6, _, _⟩ := hv.rd.shape
        subst hu6
        have HV := hide hv
        have HVL := hide hvl
        have HIN := hide hin
        have HD := hide hd
        have HN1 : Hid ((([] : List Int).length + RB.length) * 8 ≤ 140737488355328) := hide (by simp; omega)
        have HN2 : Hid (([] : List Int).length + RB.length ≤ maxLen) := hide (by simp [maxLen]; omega)
        have HSZ := hide hkp.size
        have hk1n : k1 < n + 1 := by omega
        have hk1c : k1 < cc := by omega
        have hk1c' : k1 ≤ cc := by omega
        have hkn : k < n + 1 := by omega
        have HK1 := hide hk1
        clear hv hvl hin hd hrl hRB hrb hrow hu0 hk1 hkp
        go_wp2_with (first
          | ((at_builtin; (with_reducible refine list_app (B := W.heap.size) (l := ([] : List Int)) (m := RB) row_int (.slice (some ⟨wr.heap.size, 0, none⟩) 0 0) ?_ (.tmp 25) (.tmp 33) ?_ ?_ ?_ ?_ HN1.out HN2.out ?_ ?_); (with_reducible rfl); (with_reducible rfl); rfl; (exact OW.emptyE rfl HSZ.out); (exact HD.out.alloc _); (have := HSZ.out; simp; omega); intro v3 w3 ho3 hg3 hat3; have k3 : Kp wr w3 := Kp.app hg3 (Kp.refl wr).alloc (fun q hq => by simp [Value.ownBlock] at hq; omega); obtain ⟨A5, N5, c5, rfl⟩ := ho3.rd.slice; have k3' := k3.size))
          | ((at_builtin; (with_reducible refine list_app (B := W.heap.size) (l := vs) (m := [(⟨.slice A5 N5 c5, slice_one A5 N5 c5⟩ : V1)]) row_ints (.slice A6 vs.length c6) ?_ (.tmp 24) (.tmp 35) ?_ ?_ ?_ ?_ (by simp; omega) (by simp [maxLen]; omega) ?_ ?_); (with_reducible rfl); (with_reducible rfl); rfl; (exact (HV.out.kp k3).alloc _); (show RD _ _ (.slice (some ⟨_, 0, none⟩) 1 1) _; exact RD.new1e _ (by simp) rfl); (have := HSZ.out; have := k3'; simp; omega); intro v4 w4 ho4 hg4 hat4)))
        go_roundw
        case rel =>
          have kka : Kp w3 (w3.alloc (.cells #[.slice A5 N5 c5] 22)) := (Kp.refl _).alloc
          have h1 := OWS.app (u := ⟨.slice A5 N5 c5, slice_one A5 N5 c5⟩) (l := RB) ((HV.out.kp k3).kp kka) HVL.out (fun k a b => ((HIN.out k a b).kp k3).kp kka) (by decide) (by rw [List.nil_append] at ho3; exact ho3.kp kka) ho4 hg4
          exact ⟨k1, by have := HK1.out; omega, rfl, by rw [HK1.out, ← HST.out]; exact h1, Kp.app hg4 ((HKP.out.trans k3).alloc) HV.out.hi⟩
        case measure => have := HK1.out; simp [intOf]; omega
      · obtain rfl : k = n := by omega
        have e : (rowsB (M 2) k).take k = rowsB (M 2) k := List.take_of_length_le (by simp [rowsB])
        rw [e] at hows
        have HO := hide hows
        clear e hkp hows
        go_wp2
        go_ret2
        exact ⟨_, by rw [HE.out]; rfl, by rw [HE.out]; simp only; rw [← HRW.out]; exact HO.out.rds (by simp [rowsB, maxLen]; omega), KW.out.trans HKP.out⟩
  · have HE := hide (show rtB hits gaps = _ from if_neg he)
    obtain ⟨er, her⟩ : ∃ er, er = brR hits gaps := ⟨_, rfl⟩
    rw [← her] at HRI HE he
    have d1 : (er != 0) = true := by simpa using he
    clear he her
    go_enter Try.func12, Try.ntmps12
    go_wp2_with fail
    with_reducible refine HRI.out.mono ?_
    rintro e w1 ⟨rfl, hb1⟩
    have kk1 : Kp w w1 := Kp.of hb1
    clear hb1
    go_wp2
    go_ret2
    exact ⟨_, by rw [HE.out]; rfl, by rw [HE.out]; exact ⟨none, 0, rfl, Nat.le_refl _, by decide, fun h => by simp at h⟩, kk1⟩
end Go.Proofs.Ytpmhpogkpkhbfaa
