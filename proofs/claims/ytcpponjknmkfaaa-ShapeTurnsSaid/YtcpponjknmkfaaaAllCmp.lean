/-
  shape.All's closures and slices.CompareFunc: how two trees are held against one another. Conditions: the lists read as spots (RD).
-/
import Derived.Test.YtcpponjknmkfaaaAllL
import Derived.Test.YtcpponjknmkfaaaOwn
import Derived.Test.YtcpponjknmkfaaaOutVar
import Derived.Sort.Grow
namespace Go.Proofs.Ytcpponjknmkfaaa
open Go.ChangeShapes Go.WideShapes Go.ChangeAt Go.RowKit
set_option linter.unusedVariables false
set_option linter.unusedSimpArgs false

/-- Only draws, and blocks behind. -/
def Gw (w w' : World) : Prop := ∃ q os, w' = Go.Sort.grow (w.drewN q) os
theorem Gw.refl (w : World) : Gw w w := ⟨0, #[], (Go.Sort.grow_empty _).symm⟩
theorem Gw.alloc {w w' : World} (h : Gw w w') (o : Obj) : Gw w (w'.alloc o) := by
  obtain ⟨q, os, rfl⟩ := h
  exact ⟨q, os ++ #[o], by rw [Go.Sort.alloc_eq_grow, Go.Sort.grow_grow]⟩
theorem Gw.drewN {w w' : World} (h : Gw w w') (n : Nat) : Gw w (w'.drewN n) := by
  obtain ⟨q, os, rfl⟩ := h
  exact ⟨q + n, os, by simp [Go.Sort.grow, World.drewN, Nat.add_assoc]⟩
theorem Gw.trans {a b c : World} (h : Gw a b) (k : Gw b c) : Gw a c := by
  obtain ⟨q, os, rfl⟩ := k
  obtain ⟨q', os', e⟩ := h.drewN q
  exact ⟨q', os' ++ os, by rw [e, Go.Sort.grow_grow]⟩
theorem Gw.kp {w w' : World} (h : Gw w w') : Kp w w' := by
  obtain ⟨q, os, rfl⟩ := h
  refine ⟨rfl, rfl, rfl, ?_, fun i hi => ?_⟩
  · rw [Go.Sort.size_grow]; exact Nat.le_add_right _ _
  · exact Go.Sort.heap_grow_old (w.drewN q) os hi
set_option maxRecDepth 100000 in
set_option maxHeartbeats 400000 in
theorem cmpI_any (a b : Int) (w : World) : Calls Try.prog 38 #[.int .i64 a, .int .i64 b] w fun e w' => e = .returned (.int .i64 (cmpI a b)) ∧ w = w' := by
  have hab : (a != a) = false := by simp
  have hbb : (b != b) = false := by simp
  rcases cmpI_cases a b with ⟨h, h2⟩ | ⟨h, h2⟩ | ⟨h, h2⟩
  · have e1 : decide (a < b) = true := decide_eq_true h
    rw [h2]
    clear h2 h
    go_enter Try.func38, Try.ntmps38
    go_wp2
    go_ret
    exact ⟨rfl, rfl⟩
  · have e1 : decide (a < b) = false := decide_eq_false (by omega)
    have e2 : decide (b < a) = false := decide_eq_false (by omega)
    rw [h2]
    clear h2 h
    go_enter Try.func38, Try.ntmps38
    go_wp2
    go_ret
    exact ⟨rfl, rfl⟩
  · have e1 : decide (a < b) = false := decide_eq_false (by omega)
    have e2 : decide (b < a) = true := decide_eq_true h
    rw [h2]
    clear h2 h
    go_enter Try.func38, Try.ntmps38
    go_wp2
    go_ret
    exact ⟨rfl, rfl⟩
set_option maxRecDepth 100000 in
set_option maxHeartbeats 400000 in
theorem all11_any (x y : IP) (w : World) : Calls Try.prog 47 #[.agg #[.int .i64 x.1, .int .i64 x.2], .agg #[.int .i64 y.1, .int .i64 y.2]] w fun e w' => e = .returned (.int .i64 (cmpI x.2 y.2)) ∧ Gw w w' := by
  go_enter Try.func47, Try.ntmps47
  go_wp2_with fail
  with_reducible refine (cmpI_any _ _ _).mono ?_
  rintro e w1 ⟨rfl, rfl⟩
  go_wp2
  go_ret
  exact ⟨rfl, ((Gw.refl w).alloc _).alloc _⟩
def CfRel (a b : List IP) (w : World) (iv : Value) (wr : World) : Prop := ∃ k : Nat, k ≤ a.length ∧ k ≤ b.length ∧ iv = .int .i64 (k : Int) ∧ cmpD (a.drop k) (b.drop k) = cmpD a b ∧ Gw w wr
theorem cmpD_drop {a b : List IP} {k : Nat} (h1 : k < a.length) (h2 : k < b.length) : cmpD (a.drop k) (b.drop k) = if cmpI a[k].2 b[k].2 ≠ 0 then cmpI a[k].2 b[k].2 else cmpD (a.drop (k + 1)) (b.drop (k + 1)) := by
  rw [List.drop_eq_getElem_cons h1, List.drop_eq_getElem_cons h2, cmpD]
set_option maxRecDepth 100000 in
set_option maxHeartbeats 4000000 in
theorem compareFunc_any (a b : List IP) (v u : Value) (w : World) (hr : RD w ePair v a) (hu : RD w ePair u b) : Calls Try.prog 46 #[v, u, .func (.func 47) #[] #[]] w fun e w' => e = .returned (.int .i64 (cmpD a b)) ∧ Gw w w' := by
  obtain ⟨A1, c1, rfl, hc1, hm1⟩ := hr.shape
  obtain ⟨A2, c2, rfl, hc2, hm2⟩ := hu.shape
  have HR := hide hr
  have HU := hide hu
  clear hr hu
  go_enter Try.func46, Try.ntmps46
  go_wp2
  go_loopw [13] (CfRel a b w) (fun i _ => a.length - (intOf i).toNat)
  case atStart => exact ⟨0, by omega, by omega, rfl, rfl, Gw.refl _⟩
  case round =>
    obtain ⟨k, hk, hkb, rfl, he, hg⟩ := hrel
    have HE := hide he
    have HG := hide hg
    by_cases hlt : k < a.length
    · have d1 : decide (k < a.length) = true := by simp [hlt]
      obtain ⟨ba, oa, rfl, _, x0, x1⟩ := (HR.out.kp hg.kp).pair hlt
      by_cases hltb : k < b.length
      · have d2 : decide (b.length ≤ k) = false := by simp; omega
        obtain ⟨bb, ob, rfl, _, y0, y1⟩ := (HU.out.kp hg.kp).pair hltb
        have hdr := cmpD_drop hlt hltb
        obtain ⟨xp, hxp⟩ : ∃ x, x = a[k] := ⟨_, rfl⟩
        obtain ⟨yp, hyp⟩ : ∃ x, x = b[k] := ⟨_, rfl⟩
        rw [← hxp] at x0 x1 hdr
        rw [← hyp] at y0 y1 hdr
        have HDR := hide hdr
        have y0' := ((Kp.refl wr).alloc (o := .cells #[.int .i64 xp.1, .int .i64 xp.2] 41)).cell y0
        have y1' := ((Kp.refl wr).alloc (o := .cells #[.int .i64 xp.1, .int .i64 xp.2] 41)).cell y1
        have s1 : IntKind.i64.wrap ((k : Int) + 1) = ((k + 1 : Nat) : Int) := by rw [IntWalk.i64_in _ (by omega)]; omega
        clear hdr he hg hxp hyp
        go_wp2_with fail
        refine (all11_any xp yp _).mono ?_
        rintro e w1 ⟨rfl, hg1⟩
        have HG1 := hide (((HG.out.alloc _).alloc _).trans hg1)
        obtain ⟨c, hc⟩ : ∃ x, x = cmpI xp.2 yp.2 := ⟨_, rfl⟩
        rw [← hc] at HDR ⊢
        clear hg1 hc
        by_cases h0 : c = 0
        · have d3 : (c != 0) = false := by simp [h0]
          have HN := hide (HDR.out.trans (if_neg (by simpa using h0)))
          clear h0
          go_wp2
          go_roundw
          case rel => exact ⟨k + 1, by omega, by omega, by go_num, HN.out.symm.trans HE.out, HG1.out⟩
          case measure => simp [intOf]; omega
        · have d3 : (c != 0) = true := by simpa using h0
          have HN := hide (HDR.out.trans (if_pos h0))
          clear h0
          go_wp2
          go_ret
          exact ⟨by rw [← HE.out, HN.out]; rfl, HG1.out⟩
      · have hkb2 : k = b.length := by omega
        have d2 : decide (b.length ≤ k) = true := by simp; omega
        have HN : Hid (cmpD a b = 1) := hide (by rw [← he, List.drop_of_length_le (show b.length ≤ k by omega), List.drop_eq_getElem_cons hlt]; rfl)
        clear he hg hkb2
        go_wp2
        go_ret
        exact ⟨by rw [HN.out]; rfl, HG.out.alloc _⟩
    · have hka : k = a.length := by omega
      have d1 : decide (k < a.length) = false := by simp; omega
      rw [List.drop_of_length_le (show a.length ≤ k by omega)] at he
      by_cases hltb : a.length < b.length
      · have d2 : decide (a.length < b.length) = true := by simp [hltb]
        have HN : Hid (cmpD a b = -1) := hide (by rw [← he, List.drop_eq_getElem_cons (show k < b.length by omega)]; rfl)
        clear he hg hka hltb
        go_wp2
        go_ret
        exact ⟨by rw [HN.out]; rfl, HG.out⟩
      · have d2 : decide (a.length < b.length) = false := by simp [hltb]
        have HN : Hid (cmpD a b = 0) := hide (by rw [← he, List.drop_of_length_le (show b.length ≤ k by omega)]; rfl)
        clear he hg hka hltb
        go_wp2
        go_ret
        exact ⟨by rw [HN.out]; rfl, HG.out⟩
set_option maxRecDepth 100000 in
set_option maxHeartbeats 400000 in
theorem all1_any (a b : List IP) (v u : Value) (w : World) (hr : RD w ePair v a) (hu : RD w ePair u b) : Calls Try.prog 45 #[v, u] w fun e w' => e = .returned (.int .i64 (cmpD a b)) ∧ Gw w w' := by
  have H0 := hide (compareFunc_any a b v u w hr hu)
  clear hr hu
  go_enter Try.func45, Try.ntmps45
  go_wp2_with fail
  with_reducible refine H0.out.mono ?_
  rintro e w1 ⟨rfl, hg⟩
  have HG := hide hg
  clear hg
  go_wp2
  go_ret
  exact ⟨rfl, HG.out⟩
end Go.Proofs.Ytcpponjknmkfaaa
