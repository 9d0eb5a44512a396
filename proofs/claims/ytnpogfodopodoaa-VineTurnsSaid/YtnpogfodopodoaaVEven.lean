/-
  vine.Even: what it answers. Conditions: the list reads as l (RD).
-/
import Derived.Test.YtnpogfodopodoaaVVine
import Derived.Test.YtnpogfodopodoaaVStrE
import Derived.Test.YtnpogfodopodoaaVPress
namespace Go.Proofs.Ytnpogfodopodoaa
open Go.ChangeShapes Go.WideShapes Go.ChangeAt Go.RowKit
set_option linter.unusedVariables false
set_option linter.unusedSimpArgs false

def ETPost (g : Nat) (u : Int) (w : World) (e : Ending) (w' : World) : Prop := e = .returned (.tuple #[]) ∧ w' = w.setCell ⟨g, 0, none⟩ (.int .i64 (u + 1))
set_option maxRecDepth 100000 in
set_option maxHeartbeats 2000000 in
theorem evenTold_any (g : Nat) (u key : Int) (w : World) (hb : BC w g 3 [.int .i64 u]) (h1 : 0 ≤ u) (h2 : u ≤ 1000000) :
    Calls Try.prog 26 #[.int .i64 key, .pointer (some ⟨g, 0, none⟩)] w (ETPost g u w) := by
  have g0 : w.cell? ⟨g, 0, none⟩ = some (.int .i64 u) := hb.cell 0
  have f0 := hb.frozen 0
  have hw : IntKind.i64.wrap (u + 1) = u + 1 := IntWalk.i64_in _ (by omega)
  clear hb
  go_enter Try.func26, Try.ntmps26
  go_wp2
  exact bodyPost_ret (v := .tuple #[]) (by simp [results, Try.results26, go_sem]) rfl ⟨rfl, rfl⟩
theorem BC.kn {w w' : World} {g : Nat} {st nt pt : TypeId} {cs : List Value} (h : BC w g st cs) (hk : KN nt pt w w') (h1 : st ≠ nt ∧ st ≠ pt) : BC w' g st cs := h.kf hk (by
  rintro ⟨t, cs', ht, hc⟩
  rcases ht with rfl | rfl
  · exact h.ne hc h1.1 rfl
  · exact h.ne hc h1.2 rfl)
theorem BC.setKT {w : World} {g : Nat} {st nt pt : TypeId} {v u : Value} {B : Nat} (h : BC w g st [v]) (h1 : st ≠ nt ∧ st ≠ pt) (hg : B ≤ g) : KT nt pt B w (w.setCell ⟨g, 0, none⟩ u) := by
  refine ⟨fun i cs t ht hc => hc.far ?_, fun a ha hk => Kp.set hk (by simp only; omega) _⟩
  rcases ht with rfl | rfl
  · exact fun e => h.ne (i := g) (j := i) hc h1.1 e.symm
  · exact fun e => h.ne (i := g) (j := i) hc h1.2 e.symm
def evenOf (l : List IP) : List IP × Int × Int := if (parOf l).2 ≠ 0 then ([], 0, (parOf l).2) else ((evenT (keysM id (vineT l))).spotsBy id 0, (upE (vineT l) : Int), 0)
def E1Rel (n : Nat) (w : World) (fv : Value) (wr : World) : Prop := ∃ j P : Nat, fv = .int .i64 (P : Int) ∧ P = 2 ^ j ∧ P ≤ n + 1 ∧ w = wr
def E2Rel (nt pt it : TypeId) (base : World) (r0b g : Nat) (Tf : MT Int) (uf : Nat) (mv : Value) (wr : World) : Prop :=
  ∃ (j M u : Nat) (T : MT Int) (p : Option Addr) (F : List Nat), mv = .int .i64 (M : Int) ∧ M + 1 = 2 ^ j ∧ M ≤ 1000 ∧ evenS j T = Tf ∧ M ≤ rs T ∧ u + upS j = uf ∧ BC wr g it [.int .i64 (u : Int)] ∧ BC wr r0b pt [.pointer p] ∧ MR wr nt eInt T p F ∧ r0b ∉ F ∧ (∀ x ∈ F, base.heap.size ≤ x) ∧ Kp base wr
set_option maxRecDepth 100000 in
set_option maxHeartbeats 4000000 in
theorem vineEven_any (l : List IP) (v : Value) (w : World) (hr : RD w ePair v l) : Calls Try.prog 9 #[v] w (fun e w' => ∃ v', e = .returned (.tuple #[v', .int .i64 (evenOf l).2.1, .int .i64 (evenOf l).2.2]) ∧ RD w' ePair v' (evenOf l).1 ∧ Kp w w') := by
  have HRD := hide (vineRead_any l v w hr)
  have hts := vineT_size l
  clear hr
  by_cases h0 : (parOf l).2 = 0
  · obtain ⟨T0, hT0⟩ : ∃ T, T = vineT l := ⟨_, rfl⟩
    have H1 : Hid (evenOf l = ((evenT (keysM id T0)).spotsBy id 0, (upE T0 : Int), 0)) := hide (by rw [evenOf, if_neg (by simp [h0]), hT0])
    have b1 : ((0 : Int) != 0) = false := by decide
    unfold VRPost at HRD
    rw [h0, ← hT0] at HRD
    rw [← hT0] at hts
    clear h0 hT0
    go_enter Try.func9, Try.ntmps9
    go_wp2_with fail
    with_reducible refine HRD.out.mono ?_
    rintro e w1 ⟨p, F, rfl, hm, hF, hk⟩
    have hzk := hk.size
    have HI0 : Hid (BC ((w1.alloc (.cells #[.pointer p] 51)).alloc (.cells #[.int .i64 0] 3)) (w1.heap.size + 1) 3 [.int .i64 ((([] : List Int).length : Nat) : Int)]) := hide (by
      have h := BC.new (w1.alloc (.cells #[.pointer p] 51)) 3 [.int .i64 0]
      have e : (w1.alloc (.cells #[.pointer p] 51)).heap.size = w1.heap.size + 1 := by simp
      rwa [e] at h)
    have HR0 := hide ((BC.new w1 51 [.pointer p]).kp ((Kp.refl _).alloc (o := .cells #[.int .i64 0] 3)))
    have hF1 : w1.heap.size ∉ F := fun h => by have := hm.lt _ h; omega
    have HST := hide (straight_even T0 w w1.heap.size (w1.heap.size + 1) p F (fun W ks => BC W (w1.heap.size + 1) 3 [.int .i64 ((ks.length : Nat) : Int)]) ((w1.alloc (.cells #[.pointer p] 51)).alloc (.cells #[.int .i64 0] 3)) (by omega)
      (fun W ks key ho hB hlk => ((evenTold_any (w1.heap.size + 1) _ key W ho (by omega) (by omega)).mono (fun e W' h => ⟨h.1, by
        obtain ⟨_, rfl⟩ := h
        have h9 := ho.set (j := 0) (u := .int .i64 ((ks.length : Int) + 1))
        simpa using h9, by
        obtain ⟨_, rfl⟩ := h
        exact ho.setKT (by decide) (by omega)⟩)))
      (fun W W' ks ho hk => ho.kn hk (by decide)) HR0.out ((hm.kp (Kp.refl w1).alloc).kp (Kp.refl _).alloc) hF1 hF hzk HI0.out (hk.alloc.alloc))
    clear hm hF hk
    go_wp2_with fail
    with_reducible refine HST.out.mono ?_
    rintro e w2 ⟨p2, F2, rfl, hr2, hm2, hrF2, hF2, ho2, hk2⟩
    have HR2 := hide hr2
    have HM2 := hide hm2
    have HRF2 := hide hrF2
    have HF2 := hide hF2
    have HO2 := hide ho2
    have HK2 := hide hk2
    clear hr2 hm2 hrF2 hF2 ho2 hk2
    go_wp2
    go_loopw [9] (E1Rel T0.size w2) (fun f _ => T0.size + 2 - (intOf f).toNat)
    case atStart => exact ⟨0, 1, rfl, rfl, by omega, rfl⟩
    case round =>
      obtain ⟨j, P, rfl, hP, hPn, rfl⟩ := hrel
      have hw1 : IntKind.i64.wrap (2 * (P : Int)) = 2 * (P : Int) := IntWalk.i64_in _ (by omega)
      have hw2 : IntKind.i64.wrap (2 * (P : Int) - 1) = 2 * (P : Int) - 1 := IntWalk.i64_in _ (by omega)
      have hw3 : IntKind.i64.wrap ((P : Int) * 2) = (P : Int) * 2 := IntWalk.i64_in _ (by omega)
      have hp0 : 0 < P := by rw [hP]; exact Nat.pow_pos (by omega)
      have HP := hide hP
      clear hP
      by_cases hlt : 2 * P ≤ T0.size + 1
      · have d1 : decide (2 * (P : Int) - 1 ≤ (T0.size : Int)) = true := by simp; omega
        go_wp2
        go_roundw
        case rel => exact ⟨j + 1, P * 2, by go_num, by rw [HP.out]; rfl, by omega, rfl⟩
        case measure => simp [intOf]; omega
      · have d1 : decide (2 * (P : Int) - 1 ≤ (T0.size : Int)) = false := by simp; omega
        have hlg : Hid (j = lgE T0.size) := hide (lgE_eq (by rw [← HP.out]; omega) (by rw [Nat.pow_succ, ← HP.out]; omega))
        have hksl : Hid ((keysM id T0).length = T0.size) := hide (keysM_len id T0)
        obtain ⟨K, hK⟩ : ∃ K, K = T0.size + 1 - P := ⟨_, rfl⟩
        obtain ⟨Q, hQ⟩ : ∃ Q, Q = P - 1 := ⟨_, rfl⟩
        have hw5 : IntKind.i64.wrap ((P : Int) - 1) = (Q : Int) := by rw [IntWalk.i64_in _ (by omega)]; omega
        have hw6 : IntKind.i64.wrap ((T0.size : Int) - (Q : Int)) = (K : Int) := by rw [IntWalk.i64_in _ (by omega)]; omega
        have HK := hide hK
        have HQ := hide hQ
        have hkk : K ≤ 200 := by omega
        have hqq : Q ≤ 200 := by omega
        obtain ⟨Tf, hTf⟩ : ∃ T, T = evenT (keysM id T0) := ⟨_, rfl⟩
        have HTF : Hid (evenS j (pressM K (vineM (keysM id T0))) = Tf) := hide (by rw [hTf, evenT, hksl.out, ← hlg.out, ← HP.out, hK])
        have HUF : Hid ((toldT T0).length + K + upS j = upE T0) := hide (by rw [upE, ← hlg.out, ← HP.out, hK])
        have HRS : Hid (2 * K ≤ rs (vineM (keysM id T0))) := hide (by rw [rs_vine, hksl.out]; omega)
        have HRS2 : Hid (Q ≤ rs (pressM K (vineM (keysM id T0)))) := hide (by have h := rs_press K (vineM (keysM id T0)) HRS.out; rw [rs_vine, hksl.out] at h; omega)
        have HTL := hide (toldT_len T0)
        obtain ⟨U0, hU0⟩ : ∃ U, U = (toldT T0).length := ⟨_, rfl⟩
        rw [← hU0] at HO2 HUF HTL
        rw [← hTf] at H1
        have hu0 : U0 ≤ 200 := by have := HTL.out; omega
        have HTK : Hid (keysM id Tf = keysM id T0) := hide (by rw [hTf, keys_even])
        have HUL : Hid (upE T0 ≤ 1000000) := hide (by rw [← HUF.out]; have := upS_le j; have := HP.out; omega)
        clear hK hQ hTf hU0 hw2 hw3 hlt
        by_cases hn0 : 0 < T0.size
        · have d2 : decide (0 < T0.size) = true := by simp; omega
          have HPR := hide (press_any (vineM (keysM id T0)) w w1.heap.size K p2 F2 w2 (by omega) HRS.out HR2.out HM2.out HRF2.out HF2.out hzk HK2.out)
          clear hn0
          go_wp2_with fail
          with_reducible refine HPR.out.mono ?_
          rintro e w3 ⟨p3, F3, rfl, hr3, hm3, hrF3, hF3, hkn3, hk3⟩
          have ho3 := HO2.out.kn hkn3 (by decide)
          have g3 : w3.cell? ⟨w1.heap.size + 1, 0, none⟩ = some (.int .i64 (U0 : Int)) := ho3.cell 0
          have f3 := ho3.frozen 0
          have hw7 : IntKind.i64.wrap ((U0 : Int) + (K : Int)) = ((U0 + K : Nat) : Int) := by rw [IntWalk.i64_in _ (by omega)]; omega
          have HS : Hid (E2Rel 72 51 3 w w1.heap.size (w1.heap.size + 1) Tf (upE T0) (.int .i64 (Q : Int)) (w3.setCell ⟨w1.heap.size + 1, 0, none⟩ (.int .i64 ((U0 + K : Nat) : Int)))) := hide (by
            have hne : ∀ i cs t, BC w3 i t cs → 3 ≠ t → i ≠ w1.heap.size + 1 := fun i cs t hc hn e => ho3.ne hc hn e.symm
            refine ⟨j, Q, U0 + K, _, p3, F3, rfl, by rw [HQ.out, ← HP.out]; omega, by omega, HTF.out, HRS2.out, HUF.out, ho3.set (j := 0), hr3.far (hne _ _ _ hr3 (by decide)), hm3.set (fun h => ?_), hrF3, hF3, Kp.set hk3 (by simp only; omega) _⟩
            obtain ⟨cs, hc⟩ := hm3.bc _ h
            exact hne _ _ _ hc (by decide) rfl)
          clear hr3 hm3 hrF3 hF3 hkn3 hk3 ho3
          go_wp2
          go_loopw [10] (E2Rel 72 51 3 w w1.heap.size (w1.heap.size + 1) Tf (upE T0)) (fun m _ => (intOf m).toNat)
          case atStart => exact HS.out
          case round =>
            obtain ⟨i, M, u, T, p4, F4, rfl, hM, hM1, hT, hrs, hu, ho4, hr4, hm4, hrF4, hF4, hk4⟩ := hrel
            have g4 : wr.cell? ⟨w1.heap.size + 1, 0, none⟩ = some (.int .i64 (u : Int)) := ho4.cell 0
            have f4 := ho4.frozen 0
            by_cases hlt : 1 < M
            · obtain ⟨i, rfl⟩ : ∃ k, i = k + 1 := by
                cases i with
                | zero => simp at hM; omega
                | succ k => exact ⟨k, rfl⟩
              have hp2 : 2 ^ (i + 1) = 2 * 2 ^ i := by rw [Nat.pow_succ]; omega
              obtain ⟨M2, hM2⟩ : ∃ k, k = M / 2 := ⟨_, rfl⟩
              have hm2 : M2 + 1 = 2 ^ i := by omega
              have hd1 : Int.tdiv (M : Int) 2 = (M2 : Int) := by rw [Int.tdiv_eq_ediv_of_nonneg (by omega)]; omega
              have hd2 : (M : Int) / 2 = (M2 : Int) := by omega
              have hd3 : IntKind.i64.wrap (M2 : Int) = (M2 : Int) := IntWalk.i64_in _ (by omega)
              have HT : Hid (evenS i (pressM M2 T) = Tf) := hide (by rw [← hT, evenS, ← hm2]; rfl)
              have HU : Hid (u + M2 + upS i = upE T0) := hide (by rw [← hu, upS, ← hm2]; omega)
              have hul : u ≤ 1000000 := by have := HUL.out; omega
              have HRS2 : Hid (M2 ≤ rs (pressM M2 T)) := hide (by have := rs_press M2 T (by omega); omega)
              have HPR := hide (press_any T w w1.heap.size M2 p4 F4 wr (by omega) (by omega) hr4 hm4 hrF4 hF4 hzk hk4)
              have HO4 := hide ho4
              have HM2 := hide hm2
              have hw8 : IntKind.i64.wrap ((u : Int) + (M2 : Int)) = ((u + M2 : Nat) : Int) := by rw [IntWalk.i64_in _ (by omega)]; omega
              have hlm : M2 < M := by omega
              have d3 : decide (1 < M) = true := by simp; omega
              clear hT hu hrs hM hp2 hm2 hM2 ho4 hr4 hm4 hrF4 hF4 hk4 g4 f4
              go_wp2_with fail
              with_reducible refine HPR.out.mono ?_
              rintro e w5 ⟨p5, F5, rfl, hr5, hm5, hrF5, hF5, hkn5, hk5⟩
              have ho5 := HO4.out.kn hkn5 (by decide)
              have g5 : w5.cell? ⟨w1.heap.size + 1, 0, none⟩ = some (.int .i64 (u : Int)) := ho5.cell 0
              have f5 := ho5.frozen 0
              have HS2 : Hid (E2Rel 72 51 3 w w1.heap.size (w1.heap.size + 1) Tf (upE T0) (.int .i64 (M2 : Int)) (w5.setCell ⟨w1.heap.size + 1, 0, none⟩ (.int .i64 ((u + M2 : Nat) : Int)))) := hide (by
                have hne : ∀ i cs t, BC w5 i t cs → 3 ≠ t → i ≠ w1.heap.size + 1 := fun i cs t hc hn e => ho5.ne hc hn e.symm
                refine ⟨i, M2, u + M2, _, p5, F5, rfl, HM2.out, by omega, HT.out, HRS2.out, HU.out, ho5.set (j := 0), hr5.far (hne _ _ _ hr5 (by decide)), hm5.set (fun h => ?_), hrF5, hF5, Kp.set hk5 (by simp only; omega) _⟩
                obtain ⟨cs, hc⟩ := hm5.bc _ h
                exact hne _ _ _ hc (by decide) rfl)
              clear hr5 hm5 hrF5 hF5 hkn5 hk5 ho5
              go_wp2
              go_roundw
              case rel => exact HS2.out
              case measure => simp [intOf]; omega
            · have d3 : decide (1 < M) = false := by simp; omega
              have hTe : evenS i T = T := by
                have : ∀ i (T : MT Int), 2 ^ i ≤ 2 → evenS i T = T := by
                  intro i T h
                  match i, h with
                  | 0, _ => rfl
                  | 1, _ => rfl
                  | k + 2, h =>
                    have : 2 ^ (k + 2) = 4 * 2 ^ k := by rw [Nat.pow_succ, Nat.pow_succ]; omega
                    have := Nat.pow_pos (n := k) (show 0 < 2 by omega)
                    omega
                exact this i T (by omega)
              have hUe : upS i = 0 := by
                have : ∀ i, 2 ^ i ≤ 2 → upS i = 0 := by
                  intro i h
                  match i, h with
                  | 0, _ => rfl
                  | 1, _ => rfl
                  | k + 2, h =>
                    have : 2 ^ (k + 2) = 4 * 2 ^ k := by rw [Nat.pow_succ, Nat.pow_succ]; omega
                    have := Nat.pow_pos (n := k) (show 0 < 2 by omega)
                    omega
                exact this i (by omega)
              have hTT : T = Tf := by rw [← hTe, hT]
              have hUU : u = upE T0 := by omega
              subst hTT
              have HT := hide hT
              have HUU := hide hUU
              have hsz : T.size ≤ 200 := by rw [← keysM_len id, HTK.out, keysM_len]; omega
              have c4 : wr.cell? ⟨w1.heap.size, 0, none⟩ = some (.pointer p4) := hr4.cell 0
              have c5 : (wr.alloc (.cells #[.slice none 0 0] 22)).cell? ⟨w1.heap.size, 0, none⟩ = some (.pointer p4) := ((Kp.refl wr).alloc).cell c4
              have HO := hide (OB.new (B := wr.heap.size) (st := 22) (e := 43) (E := ePair) wr (Nat.le_refl _))
              have HC := hide (vine_spots_any wr.heap.size wr.heap.size (Nat.le_refl _) T p4 F4 0 [] _ (hm4.kp (Kp.refl wr).alloc) (by omega) (by omega) (by simp; omega) HO.out (by simp))
              have HO4 := hide ho4
              have HK4 := hide hk4
              clear hT hu hrs hM hUU hTe hUe ho4 hr4 hm4 hrF4 hF4 hk4
              go_wp2_with fail
              with_reducible refine HC.out.mono ?_
              rintro e w6 ⟨rfl, ho6, hk6⟩
              have k6 := hk6.none (Kp.refl wr).alloc (Nat.le_refl _) (by simp [go_sem])
              rw [List.nil_append] at ho6
              obtain ⟨u6, hb6, hu6, hn6⟩ := ho6
              have g6 := hb6.cell 0
              obtain ⟨A6, N6, c6, rfl⟩ := hu6.rd.slice
              have g7 : w6.cell? ⟨w1.heap.size + 1, 0, none⟩ = some (.int .i64 (u : Int)) := k6.cell g4
              have HU6 := hide hu6.rd
              have K6 := hide k6
              clear hk6 hb6 hu6 hn6 k6
              go_wp2_with fail
              go_quiet (fail)
              go_wp2
              exact bodyPost_ret (v := .tuple #[.slice A6 N6 c6, .int .i64 (u : Int), .int .i64 0]) (by simp [results, Try.results9, go_sem]) rfl ⟨.slice A6 N6 c6, by rw [H1.out, HUU.out], by rw [H1.out]; exact HU6.out.drewN _, (HK4.out.trans K6.out.drewN)⟩
        · have d2 : decide (0 < T0.size) = false := by simp; omega
          have HS : Hid (E2Rel 72 51 3 w w1.heap.size (w1.heap.size + 1) Tf (upE T0) (.int .i64 (Q : Int)) w2) := hide (by
            have hk0 : K = 0 := by have := HK.out; omega
            have h1 := HTF.out
            have h2 := HUF.out
            have h3 := HRS2.out
            rw [hk0] at h1 h2 h3
            exact ⟨j, Q, U0, _, p2, F2, rfl, by rw [HQ.out, ← HP.out]; omega, by omega, h1, h3, h2, HO2.out, HR2.out, HM2.out, HRF2.out, HF2.out, HK2.out⟩)
          clear hn0
          go_wp2
          go_loopw [10] (E2Rel 72 51 3 w w1.heap.size (w1.heap.size + 1) Tf (upE T0)) (fun m _ => (intOf m).toNat)
          case atStart => exact HS.out
          case round =>
            obtain ⟨i, M, u, T, p4, F4, rfl, hM, hM1, hT, hrs, hu, ho4, hr4, hm4, hrF4, hF4, hk4⟩ := hrel
            have g4 : wr.cell? ⟨w1.heap.size + 1, 0, none⟩ = some (.int .i64 (u : Int)) := ho4.cell 0
            have f4 := ho4.frozen 0
            by_cases hlt : 1 < M
            · obtain ⟨i, rfl⟩ : ∃ k, i = k + 1 := by
                cases i with
                | zero => simp at hM; omega
                | succ k => exact ⟨k, rfl⟩
              have hp2 : 2 ^ (i + 1) = 2 * 2 ^ i := by rw [Nat.pow_succ]; omega
              obtain ⟨M2, hM2⟩ : ∃ k, k = M / 2 := ⟨_, rfl⟩
              have hm2 : M2 + 1 = 2 ^ i := by omega
              have hd1 : Int.tdiv (M : Int) 2 = (M2 : Int) := by rw [Int.tdiv_eq_ediv_of_nonneg (by omega)]; omega
              have hd2 : (M : Int) / 2 = (M2 : Int) := by omega
              have hd3 : IntKind.i64.wrap (M2 : Int) = (M2 : Int) := IntWalk.i64_in _ (by omega)
              have HT : Hid (evenS i (pressM M2 T) = Tf) := hide (by rw [← hT, evenS, ← hm2]; rfl)
              have HU : Hid (u + M2 + upS i = upE T0) := hide (by rw [← hu, upS, ← hm2]; omega)
              have hul : u ≤ 1000000 := by have := HUL.out; omega
              have HRS2 : Hid (M2 ≤ rs (pressM M2 T)) := hide (by have := rs_press M2 T (by omega); omega)
              have HPR := hide (press_any T w w1.heap.size M2 p4 F4 wr (by omega) (by omega) hr4 hm4 hrF4 hF4 hzk hk4)
              have HO4 := hide ho4
              have HM2 := hide hm2
              have hw8 : IntKind.i64.wrap ((u : Int) + (M2 : Int)) = ((u + M2 : Nat) : Int) := by rw [IntWalk.i64_in _ (by omega)]; omega
              have hlm : M2 < M := by omega
              have d3 : decide (1 < M) = true := by simp; omega
              clear hT hu hrs hM hp2 hm2 hM2 ho4 hr4 hm4 hrF4 hF4 hk4 g4 f4
              go_wp2_with fail
              with_reducible refine HPR.out.mono ?_
              rintro e w5 ⟨p5, F5, rfl, hr5, hm5, hrF5, hF5, hkn5, hk5⟩
              have ho5 := HO4.out.kn hkn5 (by decide)
              have g5 : w5.cell? ⟨w1.heap.size + 1, 0, none⟩ = some (.int .i64 (u : Int)) := ho5.cell 0
              have f5 := ho5.frozen 0
              have HS2 : Hid (E2Rel 72 51 3 w w1.heap.size (w1.heap.size + 1) Tf (upE T0) (.int .i64 (M2 : Int)) (w5.setCell ⟨w1.heap.size + 1, 0, none⟩ (.int .i64 ((u + M2 : Nat) : Int)))) := hide (by
                have hne : ∀ i cs t, BC w5 i t cs → 3 ≠ t → i ≠ w1.heap.size + 1 := fun i cs t hc hn e => ho5.ne hc hn e.symm
                refine ⟨i, M2, u + M2, _, p5, F5, rfl, HM2.out, by omega, HT.out, HRS2.out, HU.out, ho5.set (j := 0), hr5.far (hne _ _ _ hr5 (by decide)), hm5.set (fun h => ?_), hrF5, hF5, Kp.set hk5 (by simp only; omega) _⟩
                obtain ⟨cs, hc⟩ := hm5.bc _ h
                exact hne _ _ _ hc (by decide) rfl)
              clear hr5 hm5 hrF5 hF5 hkn5 hk5 ho5
              go_wp2
              go_roundw
              case rel => exact HS2.out
              case measure => simp [intOf]; omega
            · have d3 : decide (1 < M) = false := by simp; omega
              have hTe : evenS i T = T := by
                have : ∀ i (T : MT Int), 2 ^ i ≤ 2 → evenS i T = T := by
                  intro i T h
                  match i, h with
                  | 0, _ => rfl
                  | 1, _ => rfl
                  | k + 2, h =>
                    have : 2 ^ (k + 2) = 4 * 2 ^ k := by rw [Nat.pow_succ, Nat.pow_succ]; omega
                    have := Nat.pow_pos (n := k) (show 0 < 2 by omega)
                    omega
                exact this i T (by omega)
              have hUe : upS i = 0 := by
                have : ∀ i, 2 ^ i ≤ 2 → upS i = 0 := by
                  intro i h
                  match i, h with
                  | 0, _ => rfl
                  | 1, _ => rfl
                  | k + 2, h =>
                    have : 2 ^ (k + 2) = 4 * 2 ^ k := by rw [Nat.pow_succ, Nat.pow_succ]; omega
                    have := Nat.pow_pos (n := k) (show 0 < 2 by omega)
                    omega
                exact this i (by omega)
              have hTT : T = Tf := by rw [← hTe, hT]
              have hUU : u = upE T0 := by omega
              subst hTT
              have HT := hide hT
              have HUU := hide hUU
              have hsz : T.size ≤ 200 := by rw [← keysM_len id, HTK.out, keysM_len]; omega
              have c4 : wr.cell? ⟨w1.heap.size, 0, none⟩ = some (.pointer p4) := hr4.cell 0
              have c5 : (wr.alloc (.cells #[.slice none 0 0] 22)).cell? ⟨w1.heap.size, 0, none⟩ = some (.pointer p4) := ((Kp.refl wr).alloc).cell c4
              have HO := hide (OB.new (B := wr.heap.size) (st := 22) (e := 43) (E := ePair) wr (Nat.le_refl _))
              have HC := hide (vine_spots_any wr.heap.size wr.heap.size (Nat.le_refl _) T p4 F4 0 [] _ (hm4.kp (Kp.refl wr).alloc) (by omega) (by omega) (by simp; omega) HO.out (by simp))
              have HO4 := hide ho4
              have HK4 := hide hk4
              clear hT hu hrs hM hUU hTe hUe ho4 hr4 hm4 hrF4 hF4 hk4
              go_wp2_with fail
              with_reducible refine HC.out.mono ?_
              rintro e w6 ⟨rfl, ho6, hk6⟩
              have k6 := hk6.none (Kp.refl wr).alloc (Nat.le_refl _) (by simp [go_sem])
              rw [List.nil_append] at ho6
              obtain ⟨u6, hb6, hu6, hn6⟩ := ho6
              have g6 := hb6.cell 0
              obtain ⟨A6, N6, c6, rfl⟩ := hu6.rd.slice
              have g7 : w6.cell? ⟨w1.heap.size + 1, 0, none⟩ = some (.int .i64 (u : Int)) := k6.cell g4
              have HU6 := hide hu6.rd
              have K6 := hide k6
              clear hk6 hb6 hu6 hn6 k6
              go_wp2_with fail
              go_quiet (fail)
              go_wp2
              exact bodyPost_ret (v := .tuple #[.slice A6 N6 c6, .int .i64 (u : Int), .int .i64 0]) (by simp [results, Try.results9, go_sem]) rfl ⟨.slice A6 N6 c6, by rw [H1.out, HUU.out], by rw [H1.out]; exact HU6.out.drewN _, (HK4.out.trans K6.out.drewN)⟩
  · have hb : ((parOf l).2 != 0) = true := by simpa using h0
    have H1 : Hid (evenOf l = ([], 0, (parOf l).2)) := hide (by rw [evenOf, if_pos h0])
    clear h0
    go_enter Try.func9, Try.ntmps9
    go_wp2_with fail
    with_reducible refine HRD.out.mono ?_
    rintro e w1 ⟨p, F, rfl, hm, hF, hk⟩
    have HK := hide hk
    clear hm hF hk
    go_wp2
    exact bodyPost_ret (v := .tuple #[.slice none 0 0, .int .i64 0, .int .i64 (parOf l).2]) (by simp [results, Try.results9, go_sem]) rfl ⟨_, by rw [H1.out], by rw [H1.out]; exact RD.nil, HK.out.alloc⟩
end Go.Proofs.Ytnpogfodopodoaa
