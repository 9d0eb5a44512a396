/-
  best.Cost: what it answers. Conditions: the lists read as they are named (RD).
-/
import Derived.Test.YtpmhpogkpkhbfaaBRight
import Derived.Test.YtpmhpogkpkhbfaaOrder
import Derived.Test.YtpmhpogkpkhbfaaBFill
namespace Go.Proofs.Ytpmhpogkpkhbfaa
open Go.ChangeShapes Go.WideShapes Go.ChangeAt Go.RowKit
set_option linter.unusedVariables false
set_option linter.unusedSimpArgs false

def coA (l : List IP) (h : List Int) : Nat → Int
  | 0 => 0
  | k + 1 => coA l h k + gD h k * (gv l k + 1)
def coD1 (l : List IP) (k : Nat) : Int := if 0 < k then (if gv l (k - 1) + 1 > 0 then gv l (k - 1) + 1 else 0) else 0
def coD (l : List IP) (k : Nat) : Int := if k < l.length then (if gv l k + 1 > coD1 l k then gv l k + 1 else coD1 l k) else coD1 l k
def coG (l : List IP) (g : List Int) (a : Int) : Nat → Int
  | 0 => a
  | k + 1 => coG l g a k + gD g k * coD l k
def keysUp (l : List IP) : Bool := (List.range l.length).all fun k => gk l k == (k : Int)
def coB (l : List IP) (h g : List Int) : Int × Int :=
  if brR h g ≠ 0 then (0, brR h g) else if (parOf l).2 ≠ 0 then (0, (parOf l).2) else if l.length ≠ h.length then (0, 3) else if keysUp l = true then (coG l g (coA l h l.length) g.length, 0) else (0, 3)
theorem keysUp_iff {l : List IP} : keysUp l = true ↔ ∀ k, k < l.length → gk l k = (k : Int) := by
  simp [keysUp, List.all_eq_true]
theorem mul_in {a b m n : Int} (ha : 0 ≤ a) (ha2 : a ≤ m) (hb : 0 ≤ b) (hb2 : b ≤ n) : 0 ≤ a * b ∧ a * b ≤ m * n :=
  ⟨Int.mul_nonneg ha hb, Int.mul_le_mul ha2 hb2 hb (by omega)⟩
theorem coA_in {l : List IP} {h : List Int} (hh : ∀ k, 0 ≤ gD h k ∧ gD h k ≤ 1000) (hl : ∀ k, k < l.length → 0 ≤ gv l k ∧ gv l k < 200) : ∀ k, k ≤ l.length → 0 ≤ coA l h k ∧ coA l h k ≤ 200000 * (k : Int)
  | 0, _ => by simp [coA]
  | k + 1, hk => by
    have h1 := coA_in hh hl k (by omega)
    have h2 := hl k (by omega)
    have h3 := mul_in (hh k).1 (hh k).2 (show 0 ≤ gv l k + 1 by omega) (show gv l k + 1 ≤ 200 by omega)
    rw [coA]
    push_cast
    omega
theorem coD1_in {l : List IP} (hl : ∀ k, k < l.length → 0 ≤ gv l k ∧ gv l k < 200) {k : Nat} (hk : k ≤ l.length) : 0 ≤ coD1 l k ∧ coD1 l k ≤ 200 := by
  unfold coD1
  by_cases h : 0 < k
  · have := hl (k - 1) (by omega)
    rw [if_pos h]
    split <;> omega
  · rw [if_neg h]; omega
theorem coD_in {l : List IP} (hl : ∀ k, k < l.length → 0 ≤ gv l k ∧ gv l k < 200) {k : Nat} (hk : k ≤ l.length) : 0 ≤ coD l k ∧ coD l k ≤ 200 := by
  have h1 := coD1_in hl hk
  unfold coD
  by_cases h : k < l.length
  · have := hl k h
    rw [if_pos h]
    split <;> omega
  · rw [if_neg h]; exact h1
theorem coG_in {l : List IP} {g : List Int} {a : Int} (hg : ∀ k, 0 ≤ gD g k ∧ gD g k ≤ 1000) (hl : ∀ k, k < l.length → 0 ≤ gv l k ∧ gv l k < 200) (ha : 0 ≤ a) : ∀ k, k ≤ l.length + 1 → 0 ≤ coG l g a k ∧ coG l g a k ≤ a + 200000 * (k : Int)
  | 0, _ => by simp [coG]; omega
  | k + 1, hk => by
    have h1 := coG_in hg hl ha k (by omega)
    have h2 := coD_in hl (k := k) (by omega)
    have h3 := mul_in (hg k).1 (hg k).2 h2.1 h2.2
    rw [coG]
    push_cast
    omega
def CoPost (r : Int × Int) (w : World) (e : Ending) (w' : World) : Prop := e = .returned (.tuple #[.int .i64 r.1, .int .i64 r.2]) ∧ Kp w w'
def Co1Rel (l : List IP) (h : List Int) (w : World) (av iv : Value) (wr : World) : Prop := ∃ k : Nat, k ≤ l.length ∧ iv = .int .i64 (k : Int) ∧ av = .int .i64 (coA l h k) ∧ (∀ j, j < k → gk l j = (j : Int)) ∧ Kp w wr
def Co2Rel (l : List IP) (g : List Int) (a : Int) (w : World) (av iv : Value) (wr : World) : Prop := ∃ k : Nat, k ≤ g.length ∧ iv = .int .i64 (k : Int) ∧ av = .int .i64 (coG l g a k) ∧ w = wr
set_option maxRecDepth 100000 in
set_option maxHeartbeats 8000000 in
theorem cost_any (l : List IP) (hits gaps : List Int) (t v u : Value) (w : World) (hl : RD w ePair t l) (hr : RD w eInt v hits) (hu : RD w eInt u gaps) : Calls Try.prog 14 #[t, v, u] w (CoPost (coB l hits gaps) w) := by
  have HRI := hide (right_any hits gaps v u w hr hu)
  have HCK := hide (fun W h => shapeCheck_any l t W h)
  obtain ⟨A0, c0, rfl, _, _⟩ := hl.shape
  obtain ⟨A1, c1, rfl, _, _⟩ := hr.shape
  obtain ⟨A2, c2, rfl, _, _⟩ := hu.shape
  have HL := hide hl
  have HR := hide hr
  have HU := hide hu
  clear hl hr hu
  by_cases he : brR hits gaps = 0
  · obtain ⟨b1, b2, b3, b4⟩ := brR_ok he
    have g1 := gD_in b3
    have g2 := gD_in b4
    have HE0 := hide (show coB l hits gaps = _ from if_neg (fun h => h he))
    rw [he] at HRI
    clear he b3 b4
    by_cases hp : (parOf l).2 = 0
    · have hgv : ∀ k, k < l.length → 0 ≤ gv l k ∧ gv l k < 200 := fun k hk => by
        have := gv_bound l hp k hk
        rwa [← gv_eq l k hk] at this
      rw [hp] at HCK
      by_cases hlen : l.length ≠ hits.length
      · have d1 : ((l.length : Int) != (hits.length : Int)) = true := by simp; omega
        have HE := hide (HE0.out.trans ((if_neg (fun h => h hp)).trans (if_pos hlen)))
        clear hp hlen b1 b2 g1 g2 hgv
        go_enter Try.func14, Try.ntmps14
        go_wp2_with fail
        with_reducible refine HRI.out.mono ?_
        rintro e w1 ⟨rfl, hb1⟩
        have kk1 : Kp w w1 := Kp.of hb1
        clear hb1
        go_wp2_with fail
        with_reducible refine (HCK.out w1 (HL.out.kp kk1)).mono ?_
        rintro e w2 ⟨rfl, hb2⟩
        have kk2 : Kp w1 w2 := Kp.of hb2
        clear hb2
        go_wp2
        go_ret2
        exact ⟨by rw [HE.out]; rfl, kk1.trans kk2⟩
      · have d1 : ((l.length : Int) != (hits.length : Int)) = false := by simp; omega
        have hA := coA_in g1 hgv
        have hA0 := (hA l.length (Nat.le_refl _))
        have hG := coG_in (a := coA l hits l.length) g2 hgv hA0.1
        have HE1 := hide (HE0.out.trans ((if_neg (fun h => h hp)).trans (if_neg hlen)))
        have hl20 : l.length ≤ 20 := by omega
        have hgl : gaps.length = l.length + 1 := by omega
        have hhl : hits.length = l.length := by omega
        have HA := hide hA
        have HG2 := hide hG
        have HD1 : Hid (∀ k, k ≤ l.length → 0 ≤ coD1 l k ∧ coD1 l k ≤ 200) := hide (fun k h => coD1_in hgv h)
        have HD : Hid (∀ k, k ≤ l.length → 0 ≤ coD l k ∧ coD l k ≤ 200) := hide (fun k h => coD_in hgv h)
        have HGV := hide hgv
        have HB1 := hide g1
        have HB2 := hide g2
        have HGL := hide hgl
        have HHL := hide hhl
        obtain ⟨a0, ha0⟩ : ∃ a0, a0 = coA l hits l.length := ⟨_, rfl⟩
        rw [← ha0] at HE1 HG2 hA0
        have HA0 := hide ha0
        clear hp hlen b1 b2 g1 g2 hgv hA hG hgl hhl ha0 HE0
        go_enter Try.func14, Try.ntmps14
        go_wp2_with fail
        with_reducible refine HRI.out.mono ?_
        rintro e w1 ⟨rfl, hb1⟩
        have kk1 : Kp w w1 := Kp.of hb1
        clear hb1
        go_wp2_with fail
        with_reducible refine (HCK.out w1 (HL.out.kp kk1)).mono ?_
        rintro e w2 ⟨rfl, hb2⟩
        have K2 : Kp w w2 := kk1.trans (Kp.of hb2)
        clear hb2 kk1
        go_wp2
        go_loopw [10, 34] (Co1Rel l hits w2) (fun _ k _ => l.length - (intOf k).toNat)
        case atStart => exact ⟨0, by omega, rfl, rfl, fun j h => by omega, Kp.refl _⟩
        case round =>
          obtain ⟨k, hk, rfl, rfl, hky, hkp⟩ := hrel
          have HKP := hide hkp
          have HKY := hide hky
          by_cases hlt : k < l.length
          · obtain ⟨b, o, rfl, _, x0, x1⟩ := (HL.out.kp (K2.trans hkp)).pair hlt
            obtain ⟨b', o', rfl, _, y0⟩ := (HR.out.kp (K2.trans hkp)).int (k := k) (by have := HHL.out; omega)
            rw [← gk_eq l k hlt] at x0
            rw [← gv_eq l k hlt] at x1
            rw [gD_at] at y0
            have hak := HA.out k hk
            have hgk := HGV.out k hlt
            have hb := HB1.out k
            have hm := mul_in hb.1 hb.2 (show 0 ≤ gv l k + 1 by omega) (show gv l k + 1 ≤ 200 by omega)
            have hst : coA l hits (k + 1) = coA l hits k + gD hits k * (gv l k + 1) := rfl
            obtain ⟨dv, hdv⟩ : ∃ dv, dv = gv l k := ⟨_, rfl⟩
            obtain ⟨hv, hhv⟩ : ∃ hv, hv = gD hits k := ⟨_, rfl⟩
            obtain ⟨key, hkk⟩ : ∃ key, key = gk l k := ⟨_, rfl⟩
            obtain ⟨ak, hakk⟩ : ∃ ak, ak = coA l hits k := ⟨_, rfl⟩
            rw [← hdv] at x1 hgk hm hst
            rw [← hhv] at y0 hm hst
            rw [← hkk] at x0
            rw [← hakk] at hak hst ⊢
            obtain ⟨d1', hd1'⟩ : ∃ d1', d1' = dv + 1 := ⟨_, rfl⟩
            rw [← hd1'] at hm hst
            obtain ⟨p, hp⟩ : ∃ p, p = hv * d1' := ⟨_, rfl⟩
            rw [← hp] at hm hst
            have s1 : IntKind.i64.wrap (dv + 1) = d1' := by rw [IntWalk.i64_in _ (by omega), hd1']
            have s2 : IntKind.i64.wrap (hv * d1') = p := by rw [← hp]; exact IntWalk.i64_in _ (by omega)
            obtain ⟨q, hq⟩ : ∃ q, q = ak + p := ⟨_, rfl⟩
            have s3 : IntKind.i64.wrap (ak + p) = q := by rw [IntWalk.i64_in _ (by omega), hq]
            have hhn : k < hits.length := by have := HHL.out; omega
            rw [← hq] at hst
            have HST := hide hst
            by_cases hke : key = (k : Int)
            · have d2 : (key != (k : Int)) = false := by simp [hke]
              have HKE := hide (hkk.symm.trans hke)
              clear hak hgk hb hm hst hdv hhv hkk hakk hd1' hp hq hke hky hkp
              go_wp2_with fail
              go_quiet (fail)
              go_wp2
              go_roundw
              case rel =>
                refine ⟨k + 1, by omega, by go_num, by rw [HST.out], fun j hj => ?_, by have := HKP.out; (focus ((repeat (first | (with_reducible assumption) | (with_reducible exact Kp.refl _) | (with_reducible apply Kp.drew) | (with_reducible apply Kp.drewN) | ((with_reducible apply Kp.setR); (focus (first | (with_reducible assumption) | (simp; done) | (simp; omega)))) | (with_reducible apply Kp.alloc) | ((with_reducible apply Kp.call); (with_reducible assumption)) | ((with_reducible apply Kp.app); (with_reducible assumption)))); done))⟩
                by_cases e : j = k
                · subst e; exact HKE.out
                · exact HKY.out j (by omega)
              case measure => simp [intOf]; omega
            · have d2 : (key != (k : Int)) = true := by simp [hke]
              have HE := hide (HE1.out.trans (if_neg (fun h => hke (hkk.trans (keysUp_iff.1 h k hlt)))))
              clear hak hgk hb hm hst hdv hhv hkk hakk hd1' hp hq hke hky hkp
              go_wp2
              go_ret2
              exact ⟨by rw [HE.out]; rfl, by have := HKP.out; exact K2.trans (by (focus ((repeat (first | (with_reducible assumption) | (with_reducible exact Kp.refl _) | (with_reducible apply Kp.drew) | (with_reducible apply Kp.drewN) | ((with_reducible apply Kp.setR); (focus (first | (with_reducible assumption) | (simp; done) | (simp; omega)))) | (with_reducible apply Kp.alloc) | ((with_reducible apply Kp.call); (with_reducible assumption)) | ((with_reducible apply Kp.app); (with_reducible assumption)))); done)))⟩
          · obtain rfl : k = l.length := by omega
            have HE := hide (HE1.out.trans (if_pos (keysUp_iff.2 hky)))
            obtain ⟨w3, rfl⟩ : ∃ x, x = wr := ⟨_, rfl⟩
            rw [← HA0.out]
            have K3 := hide (K2.trans hkp)
            clear hky hkp
            go_wp2
            go_loopw [10, 56] (Co2Rel l gaps a0 w3) (fun _ k _ => gaps.length - (intOf k).toNat)
            case atStart => exact ⟨0, by omega, rfl, rfl, rfl⟩
            case round =>
              obtain ⟨k, hk, rfl, rfl, rfl⟩ := hrel
              by_cases hlt : k < gaps.length
              · have hgl := HGL.out
                obtain ⟨b, o, rfl, _, y0⟩ := (HU.out.kp K3.out).int (k := k) hlt
                rw [gD_at] at y0
                have hb := HB2.out k
                have hd := HD.out k (by omega)
                have hd1 := HD1.out k (by omega)
                have hgk := HG2.out k (by omega)
                have hm := mul_in hb.1 hb.2 hd.1 hd.2
                have hst : coG l gaps a0 (k + 1) = coG l gaps a0 k + gD gaps k * coD l k := rfl
                have hdd : coD l k = if k < l.length then (if gv l k + 1 > coD1 l k then gv l k + 1 else coD1 l k) else coD1 l k := rfl
                have hdd1 : coD1 l k = if 0 < k then (if gv l (k - 1) + 1 > 0 then gv l (k - 1) + 1 else 0) else 0 := rfl
                have hgv1 := HGV.out (k - 1)
                have hgv2 := HGV.out k
                obtain ⟨y, hy⟩ : ∃ y, y = gD gaps k := ⟨_, rfl⟩
                obtain ⟨D, hD⟩ : ∃ D, D = coD l k := ⟨_, rfl⟩
                obtain ⟨D1, hD1⟩ : ∃ D1, D1 = coD1 l k := ⟨_, rfl⟩
                obtain ⟨ak, hak⟩ : ∃ ak, ak = coG l gaps a0 k := ⟨_, rfl⟩
                rw [← hy] at y0 hm hst
                rw [← hD] at hm hst hd hdd
                rw [← hD1] at hdd hdd1 hd1
                rw [← hak] at hgk hst ⊢
                obtain ⟨p, hp⟩ : ∃ p, p = y * D := ⟨_, rfl⟩
                rw [← hp] at hm hst
                obtain ⟨q, hq⟩ : ∃ q, q = ak + p := ⟨_, rfl⟩
                rw [← hq] at hst
                have s1 : IntKind.i64.wrap (y * D) = p := by rw [← hp]; exact IntWalk.i64_in _ (by omega)
                have s2 : IntKind.i64.wrap (ak + p) = q := by rw [IntWalk.i64_in _ (by omega), hq]
                have HST := hide hst
                by_cases hk0 : 0 < k
                · have z1 : decide (0 < k) = true := decide_eq_true hk0
                  obtain ⟨km, hkm⟩ : ∃ km, km = k - 1 := ⟨_, rfl⟩
                  have s3 : IntKind.i64.wrap ((k : Int) - 1) = (km : Int) := by rw [IntWalk.i64_in _ (by omega)]; omega
                  have hkml : km < l.length := by omega
                  obtain ⟨b7, o7, rfl, _, _, x1⟩ := (HL.out.kp K3.out).pair hkml
                  rw [← gv_eq l km hkml] at x1
                  rw [if_pos hk0] at hdd1
                  rw [← hkm] at hdd1 hgv1
                  have hgv1' := hgv1 hkml
                  obtain ⟨v1, hv1⟩ : ∃ v1, v1 = gv l km := ⟨_, rfl⟩
                  rw [← hv1] at x1 hdd1 hgv1'
                  obtain ⟨p1, hp1⟩ : ∃ p1, p1 = v1 + 1 := ⟨_, rfl⟩
                  rw [← hp1] at hdd1
                  have s4 : IntKind.i64.wrap (v1 + 1) = p1 := by rw [IntWalk.i64_in _ (by omega), hp1]
                  have m1 : (if (0 : Int) < p1 then p1 else 0) = D1 := hdd1.symm
                  by_cases hkl : k < l.length
                  · have z2 : decide (k < l.length) = true := decide_eq_true hkl
                    obtain ⟨b8, o8, e8, _, _, x2⟩ := (HL.out.kp K3.out).pair hkl
                    cases e8
                    rw [← gv_eq l k hkl] at x2
                    rw [if_pos hkl] at hdd
                    have hgv2' := hgv2 hkl
                    obtain ⟨v2, hv2⟩ : ∃ v2, v2 = gv l k := ⟨_, rfl⟩
                    rw [← hv2] at x2 hdd hgv2'
                    obtain ⟨p2, hp2⟩ : ∃ p2, p2 = v2 + 1 := ⟨_, rfl⟩
                    rw [← hp2] at hdd
                    have s5 : IntKind.i64.wrap (v2 + 1) = p2 := by rw [IntWalk.i64_in _ (by omega), hp2]
                    have m2 := hdd.symm
                    simp only [gt_iff_lt] at m2
                    (try clear hdd); (try clear hdd1); (try clear hgv1'); (try clear hgv2'); (try clear hv1); (try clear hv2); (try clear hp1); (try clear hp2); (try clear hkm); (try clear hD); (try clear hD1)
                    clear hb hd hd1 hgk hm hst hgv1 hgv2 hp hq hgl hak hy
                    go_wp2
                    go_roundw
                    case rel => exact ⟨k + 1, by omega, by go_num, by rw [HST.out], rfl⟩
                    case measure => simp [intOf]; omega
                  · have z2 : decide (k < l.length) = false := decide_eq_false hkl
                    rw [if_neg hkl] at hdd
                    subst hdd
                    (try clear hdd); (try clear hdd1); (try clear hgv1'); (try clear hgv2'); (try clear hv1); (try clear hv2); (try clear hp1); (try clear hp2); (try clear hkm); (try clear hD); (try clear hD1)
                    clear hb hd hd1 hgk hm hst hgv1 hgv2 hp hq hgl hak hy
                    go_wp2
                    go_roundw
                    case rel => exact ⟨k + 1, by omega, by go_num, by rw [HST.out], rfl⟩
                    case measure => simp [intOf]; omega
                · have z1 : decide (0 < k) = false := decide_eq_false hk0
                  rw [if_neg hk0] at hdd1
                  by_cases hkl : k < l.length
                  · have z2 : decide (k < l.length) = true := decide_eq_true hkl
                    subst hdd1
                    obtain ⟨b8, o8, e8, _, _, x2⟩ := (HL.out.kp K3.out).pair hkl
                    cases e8
                    rw [← gv_eq l k hkl] at x2
                    rw [if_pos hkl] at hdd
                    have hgv2' := hgv2 hkl
                    obtain ⟨v2, hv2⟩ : ∃ v2, v2 = gv l k := ⟨_, rfl⟩
                    rw [← hv2] at x2 hdd hgv2'
                    obtain ⟨p2, hp2⟩ : ∃ p2, p2 = v2 + 1 := ⟨_, rfl⟩
                    rw [← hp2] at hdd
                    have s5 : IntKind.i64.wrap (v2 + 1) = p2 := by rw [IntWalk.i64_in _ (by omega), hp2]
                    have m2 := hdd.symm
                    simp only [gt_iff_lt] at m2
                    (try clear hdd); (try clear hdd1); (try clear hgv1'); (try clear hgv2'); (try clear hv1); (try clear hv2); (try clear hp1); (try clear hp2); (try clear hkm); (try clear hD); (try clear hD1)
                    clear hb hd hd1 hgk hm hst hgv1 hgv2 hp hq hgl hak hy
                    go_wp2
                    go_roundw
                    case rel => exact ⟨k + 1, by omega, by go_num, by rw [HST.out], rfl⟩
                    case measure => simp [intOf]; omega
                  · have z2 : decide (k < l.length) = false := decide_eq_false hkl
                    rw [if_neg hkl] at hdd
                    rw [hdd1] at hdd
                    subst hdd
                    have hp0 : p = 0 := by rw [hp]; simp
                    have s6 : IntKind.i64.wrap ak = q := by rw [IntWalk.i64_in _ (by omega)]; omega
                    clear hp0
                    (try clear hdd); (try clear hdd1); (try clear hgv1'); (try clear hgv2'); (try clear hv1); (try clear hv2); (try clear hp1); (try clear hp2); (try clear hkm); (try clear hD); (try clear hD1)
                    clear hb hd hd1 hgk hm hst hgv1 hgv2 hp hq hgl hak hy
                    go_wp2
                    go_roundw
                    case rel => exact ⟨k + 1, by omega, by go_num, by rw [HST.out], rfl⟩
                    case measure => simp [intOf]; omega
              · obtain rfl : k = gaps.length := by omega
                go_wp2
                go_ret2
                exact ⟨by rw [HE.out]; rfl, K3.out⟩
    · have HE := hide (HE0.out.trans (if_pos hp))
      obtain ⟨pe, hpe⟩ : ∃ pe, pe = (parOf l).2 := ⟨_, rfl⟩
      rw [← hpe] at HCK HE hp
      have d1 : (pe != 0) = true := by simpa using hp
      clear hp hpe b1 b2 g1 g2
      go_enter Try.func14, Try.ntmps14
      go_wp2_with fail
      with_reducible refine HRI.out.mono ?_
      rintro e w1 ⟨rfl, hb1⟩
      have kk1 : Kp w w1 := Kp.of hb1
      clear hb1
      go_wp2_with fail
      with_reducible refine (HCK.out w1 (HL.out.kp kk1)).mono ?_
      rintro e w2 ⟨rfl, hb2⟩
      have kk2 : Kp w1 w2 := Kp.of hb2
      clear hb2
      go_wp2
      go_ret2
      exact ⟨by rw [HE.out]; rfl, kk1.trans kk2⟩
  · have HE := hide (show coB l hits gaps = _ from if_pos he)
    obtain ⟨er, her⟩ : ∃ er, er = brR hits gaps := ⟨_, rfl⟩
    rw [← her] at HRI HE he
    have d1 : (er != 0) = true := by simpa using he
    clear he her
    go_enter Try.func14, Try.ntmps14
    go_wp2_with fail
    with_reducible refine HRI.out.mono ?_
    rintro e w1 ⟨rfl, hb1⟩
    have kk1 : Kp w w1 := Kp.of hb1
    clear hb1
    go_wp2
    go_ret2
    exact ⟨by rw [HE.out]; rfl, kk1⟩
end Go.Proofs.Ytpmhpogkpkhbfaa
