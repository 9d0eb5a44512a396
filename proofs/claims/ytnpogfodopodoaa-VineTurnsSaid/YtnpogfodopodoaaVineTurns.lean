/-
  hedgkeep.VineTurns: the walk: it answers true. Conditions: the list reads as l (RD).
-/
import Derived.Test.YtnpogfodopodoaaVLives
namespace Go.Proofs.Ytnpogfodopodoaa
open Go.ChangeShapes Go.WideShapes Go.ChangeAt Go.RowKit
set_option linter.unusedVariables false
set_option linter.unusedSimpArgs false

theorem turns_step {s : List IP} {t : PT} (h : Tr s t) {a : Nat} {rest : List Nat} (ht : toldP t = a :: rest) :
    ∃ (ha : a < s.length) (s2 : List IP) (t2 : PT), turnOf s s[a].1 = (s2, 0) ∧ Tr s2 t2 ∧ toldP t2 = rest ∧ s2.map Prod.fst = s.map Prod.fst := by
  obtain ⟨p, hp, hr⟩ := toldP_rot t 0 a rest h.at0 ht
  have ha : a < s.length := by
    have := (toldP_in t 0 h.at0 a (by rw [ht]; simp)).2
    rw [← h.size]; omega
  exact ⟨ha, _, _, turnOf_do h ha hp rfl, (h.turn ha hp).1, hr, turnL_keys _ _ _ _⟩
theorem keys_at {s l : List IP} (h : s.map Prod.fst = l.map Prod.fst) (a : Nat) (h1 : a < s.length) : s[a].1 = (l.map Prod.fst).getD a 0 := by
  rw [← h, List.getD_eq_getElem?_getD, List.getElem?_map, List.getElem?_eq_getElem h1]; rfl
theorem spine_pos {t : PT} (h : 0 < t.size) : 0 < t.spine := by
  cases t with
  | nil => simp [PT.size] at h
  | node p l r => simp [PT.spine]; omega
def VtRel (l : List IP) (N : List Nat) (w : World) (sv iv : Value) (wr : World) : Prop := ∃ (k : Nat) (s : List IP) (t : PT), k ≤ N.length ∧ iv = .int .i64 k ∧ RD wr ePair sv s ∧ Tr s t ∧ toldP t = N.drop k ∧ s.map Prod.fst = l.map Prod.fst ∧ Kp w wr
def VsRel (n : Nat) (w : World) (iv : Value) (wr : World) : Prop := ∃ k : Nat, k ≤ n ∧ iv = .int .i64 k ∧ Kp w wr

set_option maxRecDepth 100000 in
set_option maxHeartbeats 8000000 in
theorem vineTurns_walk (l : List IP) (v : Value) (w : World) (hr : RD w ePair v l) : Calls Try.prog 6 #[v] w (Ret (.bool true) w) := by
  obtain ⟨A, c, rfl, hc, hm⟩ := hr.shape
  have HR := hide hr
  clear hr
  have HVV := hide (fun W v h => vineVine_any l v W h)
  by_cases h0 : (parOf l).2 = 0
  · obtain ⟨t, ht, e1, _, _, _⟩ := vine_facts h0
    have evo : vineOf l = ((toldP t).map (fun a => (l.map Prod.fst).getD a 0), 0) := by rw [vineOf, h0, e1, toldP_map]
    obtain ⟨N, hN⟩ : ∃ N, N = toldP t := ⟨_, rfl⟩
    obtain ⟨K, hK⟩ : ∃ K, K = N.map (fun a => (l.map Prod.fst).getD a 0) := ⟨_, rfl⟩
    rw [evo, ← hN, ← hK] at HVV
    have hlen := mapRight_len l ht.right
    have hKN : K.length = N.length := by rw [hK]; simp
    have hlt : N.length = 0 ∨ N.length < l.length := by
      have h1 := toldP_len t
      have h2 := @spine_pos t
      rw [ht.size] at h1 h2
      rw [hN]; omega
    have HKN := hide hKN
    have HKA : Hid (∀ k (h : k < K.length) (h2 : k < N.length), K[k] = (l.map Prod.fst).getD N[k] 0) := hide (by subst hK; intro k h h2; simp)
    obtain ⟨M, hM⟩ : ∃ M, (if (l.length : Int) < 1 then (1 : Int) else (l.length : Int)) = M := ⟨_, rfl⟩
    have hdM : decide ((K.length : Int) < M) = true := by
      rw [← hM, hKN]
      simp only [decide_eq_true_eq]
      split <;> omega
    have HT := hide ht
    have HN := hide hN
    clear h0 ht e1 evo hN hK hKN hlt
    go_enter Try.func6, Try.ntmps6
    go_wp2_with fail
    with_reducible refine ((HVV).out _ _ (HR.out)).mono ?_
    rintro e w1 ⟨v1, rfl, hr1, hb1⟩
    have kk1 := Kp.of hb1
    have HR1 := hide hr1
    clear hr1 hb1
    obtain ⟨A1, c1, rfl, _, _⟩ := HR1.out.shape
    go_wp2_with fail
    with_reducible refine (vineLives_any _).mono ?_
    rintro e w2 ⟨rfl, hb2⟩
    have kk2 := Kp.of hb2
    clear hb2
    have HK2 := hide (HR1.out.kp kk2)
    have HR2 := hide (HR.out.kp (kk1.trans kk2))
    have K2 := kk1.trans kk2
    clear kk1 kk2
    go_wp2
    go_loopw [5, 32] (VtRel l N w2) (fun _ i _ => K.length - (intOf i).toNat)
    case atStart => exact ⟨0, l, t, by omega, rfl, HR2.out, HT.out, HN.out.symm, rfl, Kp.refl _⟩
    case round =>
      obtain ⟨k, s, t2, hk, rfl, hrs, hts, hto, hkeys, hkp⟩ := hrel
      obtain ⟨A5, N5, c5, rfl⟩ := hrs.slice
      have HS := hide hrs
      have HTS := hide hts
      have HTO := hide hto
      have HKK := hide hkeys
      clear hrs hts hto hkeys
      by_cases hlt : k < N.length
      · obtain ⟨ha, s2, t3, hdo, ht3, hto3, hk3⟩ := turns_step HTS.out (show toldP t2 = N[k] :: N.drop (k + 1) by rw [HTO.out, List.drop_eq_getElem_cons hlt])
        have hltK : k < K.length := by rw [HKN.out]; exact hlt
        obtain ⟨b, o, rfl, _, x0⟩ := (HK2.out.kp hkp).int hltK
        have hkey : K[k] = s[N[k]].1 := by rw [HKA.out k hltK hlt, keys_at HKK.out _ ha]
        obtain ⟨y, hy⟩ : ∃ y, y = K[k] := ⟨_, rfl⟩
        rw [← hy] at x0
        have HTU := hide (fun W v h => turn_any s y v W h)
        rw [← hkey, ← hy] at hdo
        rw [hdo] at HTU
        have hltI : (k : Int) < (K.length : Int) := by omega
        have HT3 := hide ht3
        have HTO3 := hide hto3
        have HK3 : Hid (s2.map Prod.fst = l.map Prod.fst) := hide (by rw [hk3, HKK.out])
        clear hy hkey hdo ht3 hto3 hk3 ha
        go_wp2_with fail
        with_reducible refine ((HTU).out _ _ (HS.out)).mono ?_
        rintro e w3 ⟨v3, rfl, hr3, hb3⟩
        have kk3 := Kp.of hb3
        have HR3 := hide hr3
        clear hr3 hb3
        go_wp2
        go_roundw
        case rel => exact ⟨k + 1, s2, t3, by omega, by go_num, HR3.out, HT3.out, HTO3.out, HK3.out, hkp.trans kk3⟩
        case measure => simp [intOf]; omega
      · have hend : toldP t2 = [] := by rw [HTO.out, List.drop_eq_nil_of_le (by omega)]
        have HD : Hid (∀ j (h : j < s.length), s[j].2 = (j : Int)) := hide (fun j h => by
          have hz := HTS.out.size
          rw [HTS.out.dep j h, toldP_end t2 0 HTS.out.at0 hend j (by omega) (by omega)]; simp)
        have hltK : ¬ (k : Int) < (K.length : Int) := by have := HKN.out; omega
        have hns : N5 = s.length := by
          obtain ⟨_, _, h9, _, _⟩ := HS.out.shape
          injection h9
        subst hns
        have hsl : s.length ≤ 200 := mapRight_len s HTS.out.right
        clear hend
        go_wp2
        go_loopw [48] (VsRel s.length wr) (fun i _ => s.length - (intOf i).toNat)
        case atStart => exact ⟨0, by omega, rfl, Kp.refl _⟩
        case round =>
          obtain ⟨j, hj, rfl, hkp2⟩ := hrel
          by_cases hlt2 : j < s.length
          · obtain ⟨b, o, rfl, _, x0, x1⟩ := (HS.out.kp hkp2).pair hlt2
            rw [HD.out j hlt2] at x1
            go_wp2
            go_roundw
            case rel => exact ⟨j + 1, by omega, by go_num, (by (focus ((repeat (first | (with_reducible assumption) | (with_reducible exact Kp.refl _) | (with_reducible apply Kp.drew) | (with_reducible apply Kp.drewN) | ((with_reducible apply Kp.setR); (focus (first | (with_reducible assumption) | (simp; done) | (simp; omega)))) | (with_reducible apply Kp.alloc) | ((with_reducible apply Kp.call); (with_reducible assumption)) | ((with_reducible apply Kp.app); (with_reducible assumption)))); done)))⟩
            case measure => simp [intOf]; omega
          · go_wp2
            go_ret
            exact ⟨by simp, (K2.trans (hkp.trans hkp2)).bel⟩
  · obtain ⟨y, hy⟩ : ∃ y, y = (parOf l).2 := ⟨_, rfl⟩
    have evo : vineOf l = ([], y) := by rw [vineOf, vineT, if_pos h0, hy]; rfl
    rw [evo] at HVV
    rw [← hy] at h0
    have b0 : (y != 0) = true := by simpa using h0
    clear evo hy h0
    go_enter Try.func6, Try.ntmps6
    go_wp2_with fail
    with_reducible refine ((HVV).out _ _ (HR.out)).mono ?_
    rintro e w1 ⟨v1, rfl, hr1, hb1⟩
    have kk1 := Kp.of hb1
    have HR1 := hide hr1
    clear hr1 hb1
    obtain ⟨A1, c1, rfl, _, _⟩ := HR1.out.shape
    go_wp2_with fail
    with_reducible refine (vineLives_any _).mono ?_
    rintro e w2 ⟨rfl, hb2⟩
    have kk2 := Kp.of hb2
    clear hb2
    go_wp2_with fail
    with_reducible refine (vineLives_any _).mono ?_
    rintro e w3 ⟨rfl, hb3⟩
    have kk3 := Kp.of hb3
    clear hb3
    go_wp2
    go_ret
    exact ⟨by simp, (kk1.trans (kk2.trans kk3)).bel⟩
end Go.Proofs.Ytnpogfodopodoaa
