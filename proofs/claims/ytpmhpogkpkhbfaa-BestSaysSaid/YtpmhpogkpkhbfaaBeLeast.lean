/-
  hedgref.LeastAsked, BestTree: what they answer, and keep. Conditions: the lists read as ints (RD), each from 0 to 1000, of no more than 20 keys; the map keeps only what is so (KM).
-/
import Derived.Test.YtpmhpogkpkhbfaaBeMap
import Derived.Test.YtpmhpogkpkhbfaaBFill
import Derived.Test.YtpmhpogkpkhbfaaBSpots
import Derived.Test.YtpmhpogkpkhbfaaTree
namespace Go.Proofs.Ytpmhpogkpkhbfaa
open Go.ChangeShapes Go.WideShapes Go.ChangeAt Go.RowKit
set_option linter.unusedVariables false
set_option linter.unusedSimpArgs false

/-- Scanned with a weight that all bear: the same top. -/
theorem scanN_both {f f' : Nat → Int} {W t0 t1 : Int} (low m : Nat) (hm : 0 < m) (hp : ∀ r, low ≤ r → r < low + m → 0 ≤ f r) (hW : 0 ≤ W) (he : ∀ r, f' r = f r + W) : scanN f' t1 low m = ((scanN f t0 low m).1 + W, (scanN f t0 low m).2) := by
  obtain ⟨a, a1, a2, a3, a4, a5⟩ := scanN_spec f t0 low m hm hp
  obtain ⟨b, b1, b2, b3, b4, b5⟩ := scanN_spec f' t1 low m hm (fun r h1 h2 => by have := hp r h1 h2; rw [he]; omega)
  have hab : a = b := by
    rcases Nat.lt_trichotomy a b with h | h | h
    · have h1 := b5 a a1 h
      have h2 := a4 b b1 b2
      rw [he, he] at h1; omega
    · exact h
    · have h1 := a5 b b1 h
      have h2 := b4 a a1 a2
      rw [he, he] at h2; omega
  subst hab
  rw [a3, b3, he]
theorem bt_in {h g : Nat → Int} (hh : ∀ k, 0 ≤ h k) (hg : ∀ k, 0 ≤ g k) {i j : Nat} (hij : i < j) : ∃ r, i ≤ r ∧ r < j ∧ bt h g i j = (r : Int) := by
  obtain ⟨r, h1, h2, h3, _⟩ := bt_spec hh hg hij
  exact ⟨r, h1, h2, h3⟩
/-- The least of a part, with all its weight, as it is scanned. -/
theorem least_scan {h g : Nat → Int} (hh : ∀ k, 0 ≤ h k) (hg : ∀ k, 0 ≤ g k) {i j : Nat} (hij : i < j) : scanN (fun r => bc h g i r + bc h g (r + 1) j + wgt h g i j) (-1) i (j - i) = (bc h g i j, bt h g i j) := by
  have hp : ∀ r, i ≤ r → r < i + (j - i) → 0 ≤ bc h g i r + bc h g (r + 1) j := fun r a b => by
    have := bc_pos hh hg _ i r (Nat.le_refl _)
    have := bc_pos hh hg _ (r + 1) j (Nat.le_refl _)
    omega
  rw [scanN_both (f := fun r => bc h g i r + bc h g (r + 1) j) (t0 := 0) i (j - i) (by omega) hp (wgt_pos hh hg (by omega)) (fun r => rfl), bt, bc_eq hij]
  congr 1
  omega
def laT (h g : Nat → Int) (i j : Nat) : Int := if i = j then -1 else bt h g i j
def LaPost (h g : Nat → Int) (b i j : Nat) (w : World) (e : Ending) (w' : World) : Prop := e = .returned (.tuple #[.int .i64 (bc h g i j), .int .i64 (laT h g i j)]) ∧ KM h g w' b ∧ Kf (fun o => o = b) w w'
def La1Rel (h g : Nat → Int) (i j : Nat) (w0 : World) (av kv : Value) (w : World) : Prop := ∃ k : Nat, i ≤ k ∧ k ≤ j ∧ av = .int .i64 (wgt h g i k) ∧ kv = .int .i64 (k : Int) ∧ Kp w0 w
def La2Rel (h g : Nat → Int) (b i j : Nat) (w0 : World) (bv tv rv : Value) (w : World) : Prop := ∃ r : Nat, i ≤ r ∧ r ≤ j ∧ bv = .int .i64 (scanN (fun r => bc h g i r + bc h g (r + 1) j + wgt h g i j) (-1) i (r - i)).1 ∧
  tv = .int .i64 (scanN (fun r => bc h g i r + bc h g (r + 1) j + wgt h g i j) (-1) i (r - i)).2 ∧ rv = .int .i64 (r : Int) ∧ KM h g w b ∧ Kf (fun o => o = b) w0 w
theorem scan_in {h g : Nat → Int} (h0 : ∀ k, 0 ≤ h k) (g0 : ∀ k, 0 ≤ g k) (hh : ∀ k, h k ≤ 1000) (hg : ∀ k, g k ≤ 1000) {i j m : Nat} (hj : j ≤ 20) (hm : i + m ≤ j) :
    -1 ≤ (scanN (fun r => bc h g i r + bc h g (r + 1) j + wgt h g i j) (-1) i m).1 ∧ (scanN (fun r => bc h g i r + bc h g (r + 1) j + wgt h g i j) (-1) i m).1 ≤ 2000000 ∧ -1 ≤ (scanN (fun r => bc h g i r + bc h g (r + 1) j + wgt h g i j) (-1) i m).2 ∧ (scanN (fun r => bc h g i r + bc h g (r + 1) j + wgt h g i j) (-1) i m).2 ≤ 20 := by
  by_cases hm0 : m = 0
  · subst hm0; simp [scanN]
  · have hp : ∀ r, i ≤ r → r < i + m → 0 ≤ bc h g i r + bc h g (r + 1) j + wgt h g i j := fun r a b => by
      have := bc_pos h0 g0 _ i r (Nat.le_refl _)
      have := bc_pos h0 g0 _ (r + 1) j (Nat.le_refl _)
      have := wgt_pos h0 g0 (i := i) (j := j) (by omega)
      omega
    obtain ⟨r, a1, a2, a3, _⟩ := scanN_spec (fun r => bc h g i r + bc h g (r + 1) j + wgt h g i j) (-1) i m (by omega) hp
    have b1 := hp r a1 a2
    have b2 := bc_le h0 g0 hh hg 20 i r (by omega) a1 (by omega)
    have b3 := bc_le h0 g0 hh hg 20 (r + 1) j (by omega) (by omega) hj
    have b4 := wgt_le hh hg (i := i) (j := j) (by omega) hj
    rw [a3]
    simp only
    omega
theorem km_rd_ne {h g : Nat → Int} {w : World} {b : Nat} {v : Value} {l : List Int} (hm : KM h g w b) (hr : RD w eInt v l) : 0 < l.length → ∀ k, v.ownBlock = some k → ¬ k = b := fun h0 k hk e => by
  subst e
  obtain ⟨D, ⟨es, cl, hb, _⟩, _⟩ := hm
  obtain ⟨A, c, rfl, _, _⟩ := hr.shape
  obtain ⟨b', o, rfl, _, hc⟩ := hr.int h0
  simp only [Value.ownBlock, Option.some.injEq] at hk
  subst hk
  simp [World.cell?, hb] at hc
set_option maxRecDepth 100000 in
set_option maxHeartbeats 8000000 in
theorem leastAsked_any (hits gaps : List Int) (hl : hits.length ≤ 20) (hgl : gaps.length = hits.length + 1) (hbh : ∀ x ∈ hits, 0 ≤ x ∧ x ≤ 1000) (hbg : ∀ x ∈ gaps, 0 ≤ x ∧ x ≤ 1000) (b : Nat) (v u : Value) (n : Nat) : ∀ (i j : Nat) (w : World), j - i ≤ n → i ≤ j → j ≤ hits.length →
    RD w eInt v hits → RD w eInt u gaps → KM (gD hits) (gD gaps) w b → Calls Try.prog 16 #[v, u, .int .i64 (i : Int), .int .i64 (j : Int), .map (some b)] w (LaPost (gD hits) (gD gaps) b i j w) := by
  have H0 := hide (fun k => gD_in hbh k)
  have G0 := hide (fun k => gD_in hbg k)
  have HGL := hide hgl
  clear hbh hbg hgl
  induction n with
  | zero =>
    intro i j w h1 h2 h3 hr hu hm
    obtain rfl : i = j := by omega
    obtain ⟨A1, c1, rfl, _, _⟩ := hr.shape
    obtain ⟨A2, c2, rfl, _, _⟩ := hu.shape
    have HM := hide hm
    clear hr hu hm
    have d1 : ((i : Int) == (i : Int)) = true := by simp
    go_enter Try.func16, Try.ntmps16
    go_wp2
    exact bodyPost_ret (v := .tuple #[.int .i64 0, .int .i64 (-1)]) (by simp [results, Try.results16, go_sem]) rfl ⟨by rw [bc_self, laT, if_pos rfl], HM.out, Kf.refl _ _⟩
  | succ n ih =>
    intro i j w h1 h2 h3 hr hu hm
    have HIH := hide ih
    have HNR := hide (km_rd_ne hm hr)
    have HNU := hide (km_rd_ne hm hu)
    obtain ⟨A1, c1, rfl, hc1, hm1⟩ := hr.shape
    obtain ⟨A2, c2, rfl, hc2, hm2⟩ := hu.shape
    have HM := hide hm
    have HR := hide hr
    have HU := hide hu
    clear hr hu ih
    by_cases hij : i = j
    · subst hij
      clear hm
      have d1 : ((i : Int) == (i : Int)) = true := by simp
      go_enter Try.func16, Try.ntmps16
      go_wp2
      exact bodyPost_ret (v := .tuple #[.int .i64 0, .int .i64 (-1)]) (by simp [results, Try.results16, go_sem]) rfl ⟨by rw [bc_self, laT, if_pos rfl], HM.out, Kf.refl _ _⟩
    · have hlt : i < j := by omega
      have d1 : ((i : Int) == (j : Int)) = false := beq_eq_false_iff_ne.2 (by omega)
      have HT : Hid (laT (gD hits) (gD gaps) i j = bt (gD hits) (gD gaps) i j) := hide (by rw [laT, if_neg hij])
      rcases hm.look hlt (by omega) with hrun | hrun
      · rw [kV] at hrun
        obtain ⟨x, hx⟩ : ∃ x, x = bc (gD hits) (gD gaps) i j := ⟨_, rfl⟩
        obtain ⟨y, hy⟩ : ∃ y, y = bt (gD hits) (gD gaps) i j := ⟨_, rfl⟩
        rw [← hx, ← hy] at hrun
        rw [← hy] at HT
        have HX := hide hx
        clear hm hx hy
        go_enter Try.func16, Try.ntmps16
        go_wp2_with fail
        go_quiet (fail)
        go_wp2
        exact bodyPost_ret (v := .tuple #[.int .i64 x, .int .i64 y]) (by simp [results, Try.results16, go_sem]) rfl ⟨by rw [HT.out, HX.out], HM.out.kp (by (focus ((repeat (first | (with_reducible assumption) | (with_reducible exact Kp.refl _) | (with_reducible apply Kp.drew) | (with_reducible apply Kp.drewN) | ((with_reducible apply Kp.setR); (focus (first | (with_reducible assumption) | (simp; done) | (simp; omega)))) | (with_reducible apply Kp.alloc) | ((with_reducible apply Kp.call); (with_reducible assumption)) | ((with_reducible apply Kp.app); (with_reducible assumption)))); done))), Kf.of (by (focus ((repeat (first | (with_reducible assumption) | (with_reducible exact Kp.refl _) | (with_reducible apply Kp.drew) | (with_reducible apply Kp.drewN) | ((with_reducible apply Kp.setR); (focus (first | (with_reducible assumption) | (simp; done) | (simp; omega)))) | (with_reducible apply Kp.alloc) | ((with_reducible apply Kp.call); (with_reducible assumption)) | ((with_reducible apply Kp.app); (with_reducible assumption)))); done)))⟩
      · rw [kV] at hrun
        have hgi : i < gaps.length := by have := HGL.out; omega
        obtain ⟨bu, ou, rfl, _, c3⟩ := HU.out.int hgi
        rw [gD_at hgi] at c3
        have HM0 : Hid (∀ W, Kp w W → KM (gD hits) (gD gaps) W b) := hide fun W hk => hm.kp hk
        have HW := hide (fun k (hk : i ≤ k ∧ k ≤ j) => (⟨wgt_le (h := gD hits) (g := gD gaps) (fun k => (H0.out k).2) (fun k => (G0.out k).2) (i := i) (j := k) hk.1 (by omega), wgt_pos (h := gD hits) (g := gD gaps) (fun k => (H0.out k).1) (fun k => (G0.out k).1) (i := i) (j := k) hk.1⟩ : _ ∧ _))
        clear hm
        obtain ⟨w1, hw1⟩ : ∃ w1, w1 = w.alloc (.cells #[.int .i64 0, .int .i64 0] 62) := ⟨_, rfl⟩
        have HK1 : Hid (Kp w w1) := hide (by rw [hw1]; exact (Kp.refl _).alloc)
        go_enter Try.func16, Try.ntmps16
        go_wp2_with fail
        rw [← hw1]
        have c31 := HK1.out.cell c3
        clear hw1 hrun d1 c3
        go_wp2
        go_loopw [14, 15] (La1Rel (gD hits) (gD gaps) i j w1) (fun _ k _ => j - (intOf k).toNat)
        case atStart => exact ⟨i, Nat.le_refl _, h2, by rw [wgt_self], rfl, Kp.refl _⟩
        case round =>
          obtain ⟨k, hk1, hk2, rfl, rfl, hkw⟩ := hrel
          by_cases hkj : k < j
          · have hkh : k < hits.length := by omega
            have hkg : k + 1 < gaps.length := by have := HGL.out; omega
            obtain ⟨bh, oh, rfl, _, y3⟩ := (HR.out.kp (HK1.out.trans hkw)).int hkh
            obtain ⟨bg, og, e4, _, z3⟩ := (HU.out.kp (HK1.out.trans hkw)).int hkg
            injection e4 with e4
            injection e4 with e5 e6
            subst e5 e6
            rw [gD_at hkh] at y3
            rw [gD_at hkg] at z3
            have b0 := H0.out k
            have b1 := G0.out (k + 1)
            obtain ⟨b2, b3⟩ := HW.out k ⟨hk1, by omega⟩
            have hws := wgt_succ (h := gD hits) (g := gD gaps) i k
            obtain ⟨X, hX⟩ : ∃ x, x = gD hits k := ⟨_, rfl⟩
            obtain ⟨Y, hY⟩ : ∃ x, x = gD gaps (k + 1) := ⟨_, rfl⟩
            obtain ⟨Z, hZ⟩ : ∃ x, x = wgt (gD hits) (gD gaps) i k := ⟨_, rfl⟩
            rw [← hX] at y3 b0 hws
            rw [← hY] at z3 b1 hws
            rw [← hZ] at b2 b3 hws ⊢
            have s1 : IntKind.i64.wrap (X + Y) = X + Y := IntWalk.i64_in _ (by omega)
            have s2 : IntKind.i64.wrap (Z + (X + Y)) = Z + (X + Y) := IntWalk.i64_in _ (by omega)
            have s3 : IntKind.i64.wrap ((k : Int) + 1) = ((k + 1 : Nat) : Int) := by rw [IntWalk.i64_in _ (by omega)]; omega
            have d2 : decide (k < j) = true := by simp [hkj]
            have bb1 : ((k + 1 : Nat) : Int) < (gaps.length : Int) := by omega
            have bb2 : (k : Int) < (hits.length : Int) := by omega
            have HWS := hide (show Z + (X + Y) = wgt (gD hits) (gD gaps) i (k + 1) by omega)
            clear hws b0 b1 b2 b3 hX hY hZ
            go_wp2_with fail
            go_quiet (fail)
            go_wp2
            go_roundw
            case rel => exact ⟨k + 1, by omega, by omega, by rw [HWS.out], by go_num, hkw.drewN⟩
            case measure => simp [intOf]; omega
          · obtain rfl : k = j := by omega
            have d2 : decide (k < k) = false := by simp
            have HM2 := hide (HM0.out wr (HK1.out.trans hkw))
            have HK2 := hide (HK1.out.trans hkw)
            have hsi := fun m (hm : i + m ≤ k) => scan_in (h := gD hits) (g := gD gaps) (fun k => (H0.out k).1) (fun k => (G0.out k).1) (fun k => (H0.out k).2) (fun k => (G0.out k).2) (i := i) (j := k) (m := m) (by omega) hm
            have HSI := hide hsi
            have hbc := fun x y (hxy : x ≤ y ∧ y ≤ k) => And.intro (bc_pos (h := gD hits) (g := gD gaps) (fun k => (H0.out k).1) (fun k => (G0.out k).1) 20 x y (by omega)) (bc_le (h := gD hits) (g := gD gaps) (fun k => (H0.out k).1) (fun k => (G0.out k).1) (fun k => (H0.out k).2) (fun k => (G0.out k).2) 20 x y (by omega) hxy.1 (by omega))
            have HBC := hide hbc
            have HLS := hide (least_scan (h := gD hits) (g := gD gaps) (fun k => (H0.out k).1) (fun k => (G0.out k).1) hlt)
            obtain ⟨g2, g3⟩ := HW.out k ⟨by omega, by omega⟩
            obtain ⟨F, hF⟩ : ∃ F, F = fun r => bc (gD hits) (gD gaps) i r + bc (gD hits) (gD gaps) (r + 1) k + wgt (gD hits) (gD gaps) i k := ⟨_, rfl⟩
            have HF := hide (fun r => congrFun hF r)
            obtain ⟨Z, hZ⟩ : ∃ x, x = wgt (gD hits) (gD gaps) i k := ⟨_, rfl⟩
            have HZ := hide hZ
            rw [← hZ] at g2 g3 ⊢
            rw [← hF] at HLS HSI
            obtain ⟨W0, rfl⟩ : ∃ x, x = wr := ⟨_, rfl⟩
            clear c31 HM0 HW hsi hbc hF hZ HM
            go_wp2_with fail
            go_loopw [16, 17, 18] (La2Rel (gD hits) (gD gaps) b i k W0) (fun _ _ r _ => k - (intOf r).toNat)
            case atStart => exact ⟨i, Nat.le_refl _, h2, by rw [Nat.sub_self]; rfl, by rw [Nat.sub_self]; rfl, rfl, HM2.out, Kf.refl _ _⟩
            case round =>
              obtain ⟨r, hr1, hr2, rfl, rfl, rfl, hm3, hk3⟩ := hrel
              rw [show (fun r => bc (gD hits) (gD gaps) i r + bc (gD hits) (gD gaps) (r + 1) k + wgt (gD hits) (gD gaps) i k) = F from (funext HF.out).symm]
              obtain ⟨B, hB⟩ : ∃ x, x = (scanN F (-1) i (r - i)).1 := ⟨_, rfl⟩
              obtain ⟨T, hT⟩ : ∃ x, x = (scanN F (-1) i (r - i)).2 := ⟨_, rfl⟩
              rw [← hB, ← hT]
              by_cases hrk : r < k
              · have d3 : decide (r < k) = true := by simp [hrk]
                have HR3 := hide ((HR.out.kp HK2.out).kf hk3 HNR.out)
                have HU3 := hide ((HU.out.kp HK2.out).kf hk3 HNU.out)
                have HC1 := hide (HIH.out i r _ (by omega) hr1 (by omega) HR3.out HU3.out hm3)
                have HC2 := hide (fun W' (hk : Kf (fun o => o = b) wr W') (hm : KM (gD hits) (gD gaps) W' b) => HIH.out (r + 1) k W' (by omega) (by omega) (by omega) (HR3.out.kf hk HNR.out) (HU3.out.kf hk HNU.out) hm)
                have hf := HF.out r
                have q1 := HBC.out i r ⟨hr1, by omega⟩
                have q2 := HBC.out (r + 1) k ⟨by omega, Nat.le_refl _⟩
                have q3 := HSI.out (r - i) (by omega)
                have hst : scanN F (-1) i (r + 1 - i) = if B < 0 ∨ F r < B then (F r, (r : Int)) else (B, T) := by
                  rw [show r + 1 - i = (r - i) + 1 by omega, scanN, ← hB, show i + (r - i) = r by omega, hB, hT]
                rw [← hB, ← hT] at q3
                rw [← HZ.out] at hf
                obtain ⟨x, hx⟩ : ∃ x, x = bc (gD hits) (gD gaps) i r := ⟨_, rfl⟩
                obtain ⟨y, hy⟩ : ∃ x, x = bc (gD hits) (gD gaps) (r + 1) k := ⟨_, rfl⟩
                rw [← hx] at hf q1
                rw [← hy] at hf q2
                have s1 : IntKind.i64.wrap (x + y) = x + y := IntWalk.i64_in _ (by omega)
                have s2 : IntKind.i64.wrap (x + y + Z) = x + y + Z := IntWalk.i64_in _ (by omega)
                obtain ⟨r1, hr4⟩ : ∃ r1, r1 = r + 1 := ⟨_, rfl⟩
                have s3 : IntKind.i64.wrap ((r : Int) + 1) = (r1 : Int) := by rw [IntWalk.i64_in _ (by omega)]; omega
                have HR4 := hide hr4
                rw [← hr4] at HC2 hst hy
                have HX := hide hx
                have HY := hide hy
                have HM3 := hide hm3
                have HK3 := hide hk3
                rw [hf] at hst
                have HST := hide hst
                clear hr4 hf q1 q2 hB hT hst hm3 hk3 hx hy
                go_wp2_with fail
                with_reducible refine HC1.out.mono ?_
                rintro e w3 ⟨rfl, hm4, hk4⟩
                rw [← HX.out]
                have HM4 := hide hm4
                have HK4 := hide hk4
                clear hm4 hk4
                go_wp2_with fail
                with_reducible refine (HC2.out _ HK4.out HM4.out).mono ?_
                rintro e w4 ⟨rfl, hm5, hk5⟩
                rw [← HY.out]
                have HM5 := hide hm5
                have HK5 := hide (HK3.out.trans (HK4.out.trans hk5 (fun _ _ h => h)) (fun _ _ h => h))
                clear hm5 hk5 HC1 HC2 HK3 HK4
                by_cases hb0 : B < 0
                · have d4 : decide (B < 0) = true := decide_eq_true hb0
                  rw [if_pos (.inl hb0)] at HST
                  clear hb0
                  go_wp2
                  go_roundw
                  all_goals have hr4 := HR4.out
                  case rel => exact ⟨r1, by omega, by omega, by rw [show (fun r => bc (gD hits) (gD gaps) i r + bc (gD hits) (gD gaps) (r + 1) k + wgt (gD hits) (gD gaps) i k) = F from (funext HF.out).symm, HST.out], by rw [show (fun r => bc (gD hits) (gD gaps) i r + bc (gD hits) (gD gaps) (r + 1) k + wgt (gD hits) (gD gaps) i k) = F from (funext HF.out).symm, HST.out], rfl, HM5.out, HK5.out⟩
                  case measure => simp [intOf]; omega
                · have d4 : decide (B < 0) = false := decide_eq_false hb0
                  by_cases hfB : x + y + Z < B
                  · have d5 : decide (x + y + Z < B) = true := decide_eq_true hfB
                    rw [if_pos (.inr hfB)] at HST
                    clear hb0 hfB
                    go_wp2
                    go_roundw
                    all_goals have hr4 := HR4.out
                    case rel => exact ⟨r1, by omega, by omega, by rw [show (fun r => bc (gD hits) (gD gaps) i r + bc (gD hits) (gD gaps) (r + 1) k + wgt (gD hits) (gD gaps) i k) = F from (funext HF.out).symm, HST.out], by rw [show (fun r => bc (gD hits) (gD gaps) i r + bc (gD hits) (gD gaps) (r + 1) k + wgt (gD hits) (gD gaps) i k) = F from (funext HF.out).symm, HST.out], rfl, HM5.out, HK5.out⟩
                    case measure => simp [intOf]; omega
                  · have d5 : decide (x + y + Z < B) = false := decide_eq_false hfB
                    rw [if_neg (by omega)] at HST
                    clear hb0 hfB
                    go_wp2
                    go_roundw
                    all_goals have hr4 := HR4.out
                    case rel => exact ⟨r1, by omega, by omega, by rw [show (fun r => bc (gD hits) (gD gaps) i r + bc (gD hits) (gD gaps) (r + 1) k + wgt (gD hits) (gD gaps) i k) = F from (funext HF.out).symm, HST.out], by rw [show (fun r => bc (gD hits) (gD gaps) i r + bc (gD hits) (gD gaps) (r + 1) k + wgt (gD hits) (gD gaps) i k) = F from (funext HF.out).symm, HST.out], rfl, HM5.out, HK5.out⟩
                    case measure => simp [intOf]; omega
              · obtain rfl : r = k := by omega
                have d3 : decide (r < r) = false := by simp
                have e7 := HLS.out
                rw [e7] at hB hT
                simp only at hB hT
                subst hB hT
                obtain ⟨w9, hrun9, hm9, hk9⟩ := hm3.upd hlt (by omega)
                rw [kV] at hrun9
                obtain ⟨B, hB⟩ : ∃ x, x = bc (gD hits) (gD gaps) i r := ⟨_, rfl⟩
                obtain ⟨T, hT⟩ : ∃ x, x = bt (gD hits) (gD gaps) i r := ⟨_, rfl⟩
                rw [← hB, ← hT] at hrun9
                rw [← hB, ← hT]
                rw [← hT] at HT
                have HB := hide hB
                have HM9 := hide hm9
                have HK9 := hide ((Kf.of HK2.out).trans (hk3.trans hk9 (fun _ _ h => h)) (fun _ _ h => h))
                clear hB hT e7 hm3 hk3 hm9 hk9
                go_wp2
                exact bodyPost_ret (v := .tuple #[.int .i64 B, .int .i64 T]) (by simp [results, Try.results16, go_sem]) rfl ⟨by rw [HT.out, HB.out], HM9.out, HK9.out⟩
theorem KM.cell_ne {h g : Nat → Int} {w : World} {b : Nat} (hm : KM h g w b) {p : Addr} {u : Value} (hc : w.cell? p = some u) : p.block ≠ b := fun e => by
  obtain ⟨D, ⟨es, cl, hb, _⟩, _⟩ := hm
  cases p
  simp only at e
  subst e
  simp [World.cell?, hb] at hc
theorem TR.cells {w w' : World} (hs : w.heap.size ≤ w'.heap.size) (hk : ∀ p u, w.cell? p = some u → w'.cell? p = some u) : ∀ {t : T} {v : Option Addr}, TR w t v → TR w' t v
  | .nil, _, h => h
  | .node _ _ _, _, ⟨b, pl, pr, e, hb, c0, c1, c2, hl, hr⟩ => ⟨b, pl, pr, e, by omega, hk _ _ c0, hk _ _ c1, hk _ _ c2, TR.cells hs hk hl, TR.cells hs hk hr⟩
theorem TR.km {h g : Nat → Int} {w w' : World} {b : Nat} {t : T} {v : Option Addr} (ht : TR w t v) (hm : KM h g w b) (hk : Kf (fun o => o = b) w w') : TR w' t v :=
  TR.cells hk.size (fun p u hc => hk.cell (hm.cell_ne hc) hc) ht
def btT (T : Nat → Nat → Int) : Nat → Nat → Nat → Go.Proofs.Ytpmhpogkpkhbfaa.T
  | 0, _, _ => .nil
  | m + 1, i, j => if i < j then .node (T i j) (btT T m i (T i j).toNat) (btT T m ((T i j).toNat + 1) j) else .nil
def BtPost (h g : Nat → Int) (b m i j : Nat) (w : World) (e : Ending) (w' : World) : Prop := ∃ p, e = .returned (.pointer p) ∧ TR w' (btT (bt h g) m i j) p ∧ KM h g w' b ∧ Kf (fun o => o = b) w w'
set_option maxRecDepth 100000 in
set_option maxHeartbeats 8000000 in
theorem bestTree_any (hits gaps : List Int) (hl : hits.length ≤ 20) (hgl : gaps.length = hits.length + 1) (hbh : ∀ x ∈ hits, 0 ≤ x ∧ x ≤ 1000) (hbg : ∀ x ∈ gaps, 0 ≤ x ∧ x ≤ 1000) (b : Nat) (v u : Value) (m : Nat) : ∀ (i j : Nat) (w : World), j - i ≤ m → i ≤ j → j ≤ hits.length →
    RD w eInt v hits → RD w eInt u gaps → KM (gD hits) (gD gaps) w b → Calls Try.prog 19 #[v, u, .int .i64 (i : Int), .int .i64 (j : Int), .map (some b)] w (BtPost (gD hits) (gD gaps) b m i j w) := by
  have HLA := hide (fun i j w h1 h2 h3 h4 h5 => leastAsked_any hits gaps hl hgl hbh hbg b v u 20 i j w h1 h2 h3 h4 h5)
  have HBI := hide (fun i j hij => bt_in (h := gD hits) (g := gD gaps) (fun k => (gD_in hbh k).1) (fun k => (gD_in hbg k).1) (i := i) (j := j) hij)
  clear hbh hbg hgl
  induction m with
  | zero =>
    intro i j w h1 h2 h3 hr hu hm
    obtain rfl : i = j := by omega
    obtain ⟨A1, c1, rfl, _, _⟩ := hr.shape
    obtain ⟨A2, c2, rfl, _, _⟩ := hu.shape
    have HM := hide hm
    clear hr hu hm
    have d1 : ((i : Int) == (i : Int)) = true := by simp
    go_enter Try.func19, Try.ntmps19
    go_wp2
    go_ret
    exact ⟨none, rfl, rfl, HM.out, Kf.refl _ _⟩
  | succ m ih =>
    intro i j w h1 h2 h3 hr hu hm
    have HIH := hide ih
    clear ih
    by_cases hij : i = j
    · subst hij
      obtain ⟨A1, c1, rfl, _, _⟩ := hr.shape
      obtain ⟨A2, c2, rfl, _, _⟩ := hu.shape
      have HM := hide hm
      clear hr hu hm
      have d1 : ((i : Int) == (i : Int)) = true := by simp
      go_enter Try.func19, Try.ntmps19
      go_wp2
      go_ret
      exact ⟨none, rfl, by rw [btT, if_neg (by omega)]; rfl, HM.out, Kf.refl _ _⟩
    · have hlt : i < j := by omega
      obtain ⟨r, hr1, hr2, hr3⟩ := HBI.out i j hlt
      have HBT : Hid (btT (bt (gD hits) (gD gaps)) (m + 1) i j = .node (r : Int) (btT (bt (gD hits) (gD gaps)) m i r) (btT (bt (gD hits) (gD gaps)) m (r + 1) j)) := hide (by rw [btT, if_pos hlt, hr3, Int.toNat_natCast])
      have HNR := hide (km_rd_ne hm hr)
      have HNU := hide (km_rd_ne hm hu)
      have HC := hide (HLA.out i j w (by omega) h2 h3 hr hu hm)
      have HR := hide hr
      have HU := hide hu
      have HT : Hid (laT (gD hits) (gD gaps) i j = (r : Int)) := hide (by rw [laT, if_neg hij, hr3])
      have d1 : ((i : Int) == (j : Int)) = false := beq_eq_false_iff_ne.2 (by omega)
      obtain ⟨r1, hr4⟩ : ∃ r1, r1 = r + 1 := ⟨_, rfl⟩
      have s3 : IntKind.i64.wrap ((r : Int) + 1) = (r1 : Int) := by rw [IntWalk.i64_in _ (by omega)]; omega
      have HC1 := hide (fun W (hk : Kf (fun o => o = b) w W) (hm : KM (gD hits) (gD gaps) W b) => HIH.out i r W (by omega) hr1 (by omega) (hr.kf hk HNR.out) (hu.kf hk HNU.out) hm)
      have HC2 := hide (fun W (hk : Kf (fun o => o = b) w W) (hm : KM (gD hits) (gD gaps) W b) => HIH.out (r + 1) j W (by omega) (by omega) (by omega) (hr.kf hk HNR.out) (hu.kf hk HNU.out) hm)
      rw [← hr4] at HC2 HBT
      obtain ⟨A1, c1, rfl, _, _⟩ := hr.shape
      obtain ⟨A2, c2, rfl, _, _⟩ := hu.shape
      clear hr hu hm hr4 hr3 hij hr1 hr2
      go_enter Try.func19, Try.ntmps19
      go_wp2_with fail
      with_reducible refine HC.out.mono ?_
      rintro e w1 ⟨rfl, hm1, hk1⟩
      rw [HT.out]
      have HM1 := hide hm1
      have HK1 := hide hk1
      clear hm1 hk1 HC
      go_wp2_with fail
      with_reducible refine (HC1.out _ HK1.out HM1.out).mono ?_
      rintro e w2 ⟨p2, rfl, ht2, hm2, hk2⟩
      have HM2 := hide hm2
      have HT2 := hide ht2
      have HK2 := hide (HK1.out.trans hk2 (fun _ _ h => h))
      clear ht2 hm2 hk2
      go_wp2_with fail
      with_reducible refine (HC2.out _ HK2.out HM2.out).mono ?_
      rintro e w3 ⟨p3, rfl, ht3, hm3, hk3⟩
      have HM3 := hide hm3
      have HT3 := hide ht3
      have HT23 := hide (HT2.out.km HM2.out hk3)
      have HK3 := hide (HK2.out.trans hk3 (fun _ _ h => h))
      clear ht3 hm3 hk3
      go_wp2
      go_ret
      exact ⟨_, rfl, by rw [HBT.out]; exact TR.mk HT23.out HT3.out _, HM3.out.alloc _, HK3.out.on (Kp.refl _).alloc⟩
theorem btT_spots {T : Nat → Nat → Int} {n : Nat} (hT : TopsIn T n) : ∀ (m i j : Nat) (d : Int), j ≤ n → (btT T m i j).spots d = spB T m i j d
  | 0, i, j, d, _ => rfl
  | m + 1, i, j, d, hj => by
    rw [btT, spB]
    split
    · rename_i hlt
      obtain ⟨r, h1, h2, h3⟩ := hT i j hlt hj
      rw [h3, Int.toNat_natCast, T.spots, btT_spots hT m i r _ (by omega), btT_spots hT m (r + 1) j _ hj]
    · rfl
end Go.Proofs.Ytpmhpogkpkhbfaa
