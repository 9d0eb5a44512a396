/-
  hedgkeep.VineFull: the walk: it answers true. Conditions: the list reads as l (RD).
-/
import Derived.Test.YtnpogfodopodoaaVLives
import Derived.Test.YtnpogfodopodoaaMapK
namespace Go.Proofs.Ytnpogfodopodoaa
open Go.ChangeShapes Go.WideShapes Go.ChangeAt Go.RowKit Go.Maps
set_option linter.unusedVariables false
set_option linter.unusedSimpArgs false

theorem full_facts {l : List IP} (h : (parOf l).2 = 0) : ∃ (E : List IP) (U H : Nat), evenOf l = (E, (U : Int), 0) ∧ E.length ≤ 200 ∧ (∀ k (hk : k < E.length), 0 ≤ E[k].2 ∧ E[k].2 < 200) ∧ max 0 (mostL E) = (H : Int) ∧ H ≤ 8 ∧
    ∀ d : Nat, d < H → (E.map Prod.snd).count (d : Int) = 2 ^ d := by
  obtain ⟨t, ht, _, _, hk, hsz⟩ := vine_facts h
  obtain ⟨h1, h2, h3, h4⟩ := even_right h
  have hlen := mapRight_len l ht.right
  have hq := even_qt (l.map Prod.fst)
  obtain ⟨q1, _, q3, _⟩ := qt_hei _ _ hq
  have qc := qt_cnt _ _ hq
  rw [h3] at q3
  have hq8 : heiM (evenT (l.map Prod.fst)) ≤ 8 := q3 8 (by omega)
  have hm := mostL_spots (evenT (l.map Prod.fst)) 0 (by omega)
  refine ⟨_, upE (vineT l), heiM (evenT (l.map Prod.fst)) - 1, ?_, ?_, gv_bound _ h1, ?_, by omega, fun d hd => ?_⟩
  · rw [evenOf, if_neg (by simp [h]), hk]
  · have := congrArg List.length h2
    simp only [List.length_map] at this
    omega
  · rw [hm]
    split <;> omega
  · have h5 := cnt_spots (evenT (l.map Prod.fst)) 0 d
    rw [Int.zero_add] at h5
    rw [h5]
    exact qc d (by omega)
def FuRel (E : List IP) (w : World) (b : Nat) (mv iv : Value) (wr : World) : Prop := ∃ (k : Nat) (m : Int), k ≤ E.length ∧ iv = .int .i64 k ∧ mv = .int .i64 m ∧ m = max 0 (mostL (E.take k)) ∧ m < 200 ∧ wr.ownsMap Try.prog 3 (plainElem (H := Unit) Try.prog 3) b k (cntMD ((E.take k).map Prod.snd).reverse) ∧ Kp w wr
def FdRel (H : Nat) (w : World) (b n : Nat) (D : DataW Unit) (iv : Value) (wr : World) : Prop := ∃ d : Nat, d ≤ H ∧ iv = .int .i64 d ∧ wr.ownsMap Try.prog 3 (plainElem (H := Unit) Try.prog 3) b n D ∧ Kp w wr

set_option maxRecDepth 100000 in
set_option maxHeartbeats 8000000 in
theorem vineFull_walk (l : List IP) (v : Value) (w : World) (hr : RD w ePair v l) : Calls Try.prog 4 #[v] w (Ret (.bool true) w) := by
  obtain ⟨A, c, rfl, hc, hm⟩ := hr.shape
  have HR := hide hr
  clear hr
  have HEL := hide (fun W v h => vineEven_any l v W h)
  by_cases h0 : (parOf l).2 = 0
  · obtain ⟨E, U, H, hev, hel, heb, hmo, hH8, hcn⟩ := full_facts h0
    rw [hev] at HEL
    have HEB := hide heb
    have HCN := hide hcn
    have HMO := hide hmo
    have hmm := @run_makeMap Try.prog
    clear h0 hev heb hmo hcn
    go_enter Try.func4, Try.ntmps4
    go_wp2_with fail
    with_reducible refine (HEL.out _ _ HR.out).mono ?_
    rintro e w1 ⟨v1, rfl, hr1, kk1⟩
    obtain ⟨A1, c1, rfl, _, _⟩ := hr1.shape
    have HR1 := hide hr1
    clear hr1
    go_wp2_with fail
    with_reducible refine (vineLives_any _).mono ?_
    rintro e w2 ⟨rfl, hb2⟩
    have kk2 := Kp.of hb2
    clear hb2
    have HR2 := hide (HR1.out.kp kk2)
    have K2 := kk1.trans kk2
    clear kk1 kk2
    go_wp2
    go_loopw [7, 27] (FuRel E w2 w2.heap.size) (fun _ i _ => E.length - (intOf i).toNat)
    case atStart => exact ⟨0, 0, by omega, rfl, rfl, by rw [List.take_zero]; decide, by omega, World.ownsMap_made _ _ _ _, (Kp.refl w2).alloc⟩
    case round =>
      obtain ⟨k, m, hk, rfl, rfl, hmk, hm2, hown, hkp⟩ := hrel
      have HMK := hide hmk
      clear hmk
      by_cases hlt : k < E.length
      · obtain ⟨b, o, rfl, _, c0, c1⟩ := (HR2.out.kp hkp).pair hlt
        obtain ⟨g1, g2⟩ := HEB.out k hlt
        obtain ⟨y, hy⟩ : ∃ y, y = E[k].2 := ⟨_, rfl⟩
        rw [← hy] at c1 g1 g2
        have hkey : keyOf Try.prog 3 (.int .i64 y) = some (.int .i64 y) := keyOf_int_mk Try.underlying3 (wf_in2 (by omega))
        obtain ⟨L, hL⟩ : ∃ L, L = ((E.take k).map Prod.snd).reverse := ⟨_, rfl⟩
        rw [← hL] at hown
        obtain ⟨n, hn⟩ : ∃ n, n = L.count y := ⟨_, rfl⟩
        have hnl : n ≤ 200 := by
          have h1 : L.count y ≤ L.length := List.count_le_length
          have h2 : L.length ≤ E.length := by rw [hL]; simp; omega
          omega
        have HC : Hid (∀ c : Int, (cntMD L).atKey (.int .i64 y) (.lit (.int .i64 0)) = .lit (.int .i64 c) → c = (n : Int)) := hide (fun c h => by
          rw [cntMD_at] at h
          injection h with h; injection h with _ h; rw [hn]; exact h.symm)
        have hwn : IntKind.i64.wrap ((n : Int) + 1) = (n : Int) + 1 := IntWalk.i64_in _ (by omega)
        obtain ⟨m3, hm3⟩ : ∃ m3, (if m < y then y else m) = m3 := ⟨_, rfl⟩
        have hM3 : Hid (m3 = max 0 (mostL (E.take (k + 1)))) := hide (by
          rw [mostL_snoc E k hlt, ← hm3, ← hy]
          have := HMK.out
          split <;> omega)
        have hm4 : Hid (m3 < 200) := hide (by rw [← hm3]; split <;> omega)
        have HL : Hid (((E.take (k + 1)).map Prod.snd).reverse = y :: L) := hide (by rw [List.take_succ_eq_append_getElem hlt, hL, hy, List.map_append, List.reverse_append]; rfl)
        have HN := hide hn
        have hbl := hown.lt
        have hwf : (Lit.int .i64 ((n : Int) + 1)).wf = true := wf_in2 (by omega)
        clear hy hn hL
        go_wp2_with (first
          | (at_lookup; refine wpList_lookup_own_int _ rfl _ _ 41 rfl 3 3 .i64 int_law2 Try.underlying41 Try.underlying3 (int_zero2 _) w2.heap.size k _ rfl (hown.alloc _) _ _ rfl hkey ?_; intro c hat hwc; obtain rfl := HC.out c hat)
          | (at_mapUpdate; refine wpList_mapUpdate_own _ rfl _ _ _ 41 rfl 3 3 int_law2 Try.underlying41 _ w2.heap.size k _ rfl (hown.alloc _) (by unfold maxLen; omega) _ _ _ rfl rfl hkey _ [] (plainElem_int Try.underlying3 hwf) ?_; intro w4 hown4 hgrow4; have c9 : w4.cell? ⟨wr.heap.size, 1, none⟩ = some (.int .i64 y) := hgrow4.cell (cell_of_row _ _ 1 _ _ (0, 0) (heap_alloc_new wr _)) (by simp only [ne_eq, Option.some.injEq]; omega)))
        go_roundw
        case rel => exact ⟨k + 1, m3, by omega, by go_num, rfl, hM3.out, hm4.out, by rw [HL.out, cntMD, ← HN.out]; exact hown4, Below.grown hkp.alloc hgrow4 hkp.alloc.size (fun j hj => by cases hj; exact Nat.le_refl _)⟩
        case measure => simp [intOf]; omega
      · have hkE : E.take k = E := List.take_of_length_le (by omega)
        have hmH : m = (H : Int) := by rw [HMK.out, hkE, HMO.out]
        rw [hkE] at hown
        obtain ⟨D, hD⟩ : ∃ D, D = cntMD (E.map Prod.snd).reverse := ⟨_, rfl⟩
        rw [← hD] at hown
        have HD := hide hD
        subst hmH
        clear hD hkE
        go_wp2
        go_loopw [42] (FdRel H w2 w2.heap.size k D) (fun i _ => H - (intOf i).toNat)
        case atStart => exact ⟨0, by omega, rfl, hown, hkp⟩
        case round =>
          obtain ⟨d, hd, rfl, hown2, hkp2⟩ := hrel
          by_cases hlt2 : d < H
          · obtain ⟨Q, hQ⟩ : ∃ Q : Int, Q = d := ⟨_, rfl⟩
            have hQ0 : 0 ≤ Q := by omega
            have hQ1 : Q ≤ 8 := by omega
            have hQH : Q < (H : Int) := by omega
            have hQd : Q.toNat = d := by omega
            obtain ⟨P, hP⟩ : ∃ P : Int, wrap64 (2 ^ Q.toNat) = P := ⟨_, rfl⟩
            have hPk : P = ((2 ^ d : Nat) : Int) ∧ 1 ≤ P ∧ P ≤ 256 := by
              have h2 : (2 : Nat) ^ d ≤ 2 ^ 8 := Nat.pow_le_pow_right (by omega) (by omega)
              have h3 : 1 ≤ (2 : Nat) ^ d := Nat.pow_pos (by omega)
              have h4 : (2 : Int) ^ d = ((2 ^ d : Nat) : Int) := by rw [Int.natCast_pow]; rfl
              rw [hQd, h4, IntWalk.wrap64_in _ (by omega)] at hP
              omega
            obtain ⟨hPk, g1, g2⟩ := hPk
            have hrunN : ∀ n, (Instr.lookup 41 (.map (some w2.heap.size)) (.int .i64 Q) false).run Try.prog (wr.drewN n) = .ok (.int .i64 P) (wr.drewN n) := fun n => by
              obtain ⟨cc, hrun, hat, _⟩ := World.ownsMap.lookup_int (w := wr.drewN n) hown2 int_law2 Try.underlying41 Try.underlying3 (int_zero2 _) (key := .int .i64 Q) (kl := .int .i64 Q) (keyOf_int_mk Try.underlying3 (wf_in2 (by omega)))
              have hcc : cc = P := by
                rw [HD.out, cntMD_at] at hat
                injection hat with hat; injection hat with _ hat
                rw [← hat, List.count_reverse, hQ, HCN.out d hlt2, hPk]
              subst hcc
              exact hrun
            have HQ := hide hQ
            rw [← hQ]
            clear hQ hQd hPk
            go_wp2_with fail
            go_quiet (fail)
            go_wp2
            go_roundw
            case rel => exact ⟨d + 1, by omega, by have := HQ.out; subst this; go_num, hown2, (by (focus ((repeat (first | (with_reducible assumption) | (with_reducible exact Kp.refl _) | (with_reducible apply Kp.drew) | (with_reducible apply Kp.drewN) | ((with_reducible apply Kp.setR); (focus (first | (with_reducible assumption) | (simp; done) | (simp; omega)))) | (with_reducible apply Kp.alloc) | ((with_reducible apply Kp.call); (with_reducible assumption)) | ((with_reducible apply Kp.app); (with_reducible assumption)))); done)))⟩
            case measure => have := HQ.out; subst this; simp [intOf]; omega
          · go_wp2
            go_ret
            exact ⟨by simp, (K2.trans hkp2).bel⟩
  · obtain ⟨y, hy⟩ : ∃ y, y = (parOf l).2 := ⟨_, rfl⟩
    have ev : evenOf l = ([], 0, y) := by rw [evenOf, if_pos h0, hy]
    rw [ev] at HEL
    rw [← hy] at h0
    have b0 : (y != 0) = true := by simpa using h0
    clear ev hy h0
    go_enter Try.func4, Try.ntmps4
    go_wp2_with fail
    with_reducible refine (HEL.out _ _ HR.out).mono ?_
    rintro e w1 ⟨v1, rfl, hr1, kk1⟩
    obtain ⟨A1, c1, rfl, _, _⟩ := hr1.shape
    clear hr1
    go_wp2_with fail
    with_reducible refine (vineLives_any _).mono ?_
    rintro e w2 ⟨rfl, hb2⟩
    have kk2 := Kp.of hb2
    clear hb2
    go_wp2_with fail
    with_reducible refine (vineLives_any _).mono ?_
    rintro e w3 ⟨rfl, hb3⟩
    have kk3 := Kp.of hb3
    clear hb3
    go_wp2
    go_ret
    exact ⟨by simp, (kk1.trans (kk2.trans kk3)).bel⟩
end Go.Proofs.Ytnpogfodopodoaa
