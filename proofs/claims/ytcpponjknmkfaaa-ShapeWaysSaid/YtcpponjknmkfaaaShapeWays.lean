/-
  hedgkeep.ShapeWays: the walk: it answers true. Conditions: the list reads as l (RD).
-/
import Derived.Test.YtcpponjknmkfaaaWaysLaw
import Derived.Test.YtcpponjknmkfaaaShapeTurned
namespace Go.Proofs.Ytcpponjknmkfaaa
open Go.ChangeShapes Go.WideShapes Go.ChangeAt Go.RowKit
set_option linter.unusedVariables false
set_option linter.unusedSimpArgs false

def WyRel (n sp : Nat) (w : World) (sv mv : Value) (wr : World) : Prop := ∃ (s : List IP) (t : PT) (m : Nat), RD wr ePair sv s ∧ Tr s t ∧ s.length = n ∧ mv = .int .i64 m ∧ m + sp = t.spine ∧ Kp w wr
def LsRel (s : List IP) (U : List Int) (w : World) (xv iv : Value) (wr : World) : Prop := ∃ (k : Nat) (x : Int), k ≤ U.length ∧ iv = .int .i64 k ∧ xv = .int .i64 x ∧ LS s U k x ∧ Kp w wr
theorem LS.no {s : List IP} {U : List Int} {k : Nat} {x : Int} (h : LS s U k x) (hk : k < U.length) (hn : ¬ (k : Int) < U[k]) : LS s U (k + 1) x := by
  rcases h with ⟨e, h⟩ | ⟨a, ha, hs, e, h1, h2, h3⟩
  · refine .inl ⟨e, fun j hj hjk => ?_⟩
    rcases Nat.lt_or_ge j k with h4 | h4
    · exact h j hj h4
    · have : j = k := by omega
      subst this; exact hn
  · refine .inr ⟨a, ha, hs, e, by omega, h2, fun j hj hj2 hjk hl => ?_⟩
    rcases Nat.lt_or_ge j k with h4 | h4
    · exact h3 j hj hj2 h4 hl
    · have : j = k := by omega
      subst this; exact absurd hl hn
theorem LS.first {s : List IP} {U : List Int} {k : Nat} (h : LS s U k (-1)) (hk : k < U.length) (hs : k < s.length) (hl : (k : Int) < U[k]) : LS s U (k + 1) k := by
  rcases h with ⟨e, h⟩ | ⟨a, ha, hs, e, h1, h2, h3⟩
  · refine .inr ⟨k, hk, hs, rfl, by omega, hl, fun j hj hj2 hjk hl2 => ?_⟩
    rcases Nat.lt_or_ge j k with h4 | h4
    · exact absurd hl2 (h j hj h4)
    · have : j = k := by omega
      subst this; exact Int.le_refl _
  · omega
theorem LS.more {s : List IP} {U : List Int} {k a : Nat} (h : LS s U k (a : Int)) (hk : k < U.length) (hs : k < s.length) (has : a < s.length) (hl : (k : Int) < U[k]) : (s[k].2 < s[a].2 → LS s U (k + 1) k) ∧ (¬ s[k].2 < s[a].2 → LS s U (k + 1) (a : Int)) := by
  rcases h with ⟨e, h⟩ | ⟨b, hb, hbs, e, h1, h2, h3⟩
  · omega
  · obtain rfl : a = b := by omega
    refine ⟨fun hlt => .inr ⟨k, hk, hs, rfl, by omega, hl, fun j hj hj2 hjk hl2 => ?_⟩, fun hge => .inr ⟨a, hb, hbs, rfl, by omega, h2, fun j hj hj2 hjk hl2 => ?_⟩⟩
    · rcases Nat.lt_or_ge j k with h4 | h4
      · have := h3 j hj hj2 h4 hl2; omega
      · have : j = k := by omega
        subst this; exact Int.le_refl _
    · rcases Nat.lt_or_ge j k with h4 | h4
      · exact h3 j hj hj2 h4 hl2
      · have : j = k := by omega
        subst this; omega

set_option maxRecDepth 100000 in
set_option maxHeartbeats 16000000 in
theorem shapeWays_walk (l : List IP) (v : Value) (w : World) (hr : RD w ePair v l) : Calls Try.prog 6 #[v] w (Ret (.bool true) w) := by
  obtain ⟨A, c, rfl, hc, hm⟩ := hr.shape
  have HR := hide hr
  clear hr
  have HCK := hide (fun W v h => shapeCheck_any l v W h)
  by_cases h0 : (parOf l).2 = 0
  · obtain ⟨t0, ht0, _, _⟩ := Tr.of h0
    have hlen := mapRight_len l ht0.right
    have hs0 := PT.spine_le t0
    have hsz0 : t0.size = l.length := ht0.size
    have hsp1 : 0 < l.length → 0 < t0.spine := fun h => by
      cases t0 with
      | nil => simp [PT.size] at hsz0; omega
      | node q x y => simp only [PT.spine]; omega
    rw [h0] at HCK
    have HT0 := hide ht0
    have HSP := hide hsp1
    have HS0 : Hid (t0.spine ≤ l.length) := hide (by omega)
    clear h0 ht0 hs0 hsz0 hsp1
    go_enter Try.func6, Try.ntmps6
    go_wp2_with fail
    with_reducible refine (shapeLives_any _).mono ?_
    rintro e w1 ⟨rfl, hb1⟩
    have kk1 := Kp.of hb1
    clear hb1
    go_wp2_with fail
    with_reducible refine (HCK.out _ _ (HR.out.kp kk1)).mono ?_
    rintro e w2 ⟨rfl, hb2⟩
    have kk2 := Kp.of hb2
    clear hb2
    go_wp2_with fail
    with_reducible refine (cloneSpots_any l _ _ (HR.out.kp (kk1.trans kk2)) (by omega)).mono ?_
    rintro e w3 ⟨v3, rfl, ho3, hb3⟩
    have KW := hide (kk1.trans (kk2.trans (Kp.of hb3)))
    have HO3 := hide ho3.rd
    clear kk1 kk2 ho3 hb3
    go_wp2
    go_loopw [3, 4] (WyRel l.length t0.spine w3) (fun _ m _ => l.length - (intOf m).toNat)
    case atStart => exact ⟨l, t0, 0, HO3.out, HT0.out, rfl, rfl, by omega, Kp.refl _⟩
    case round =>
      obtain ⟨s, t, m, hrs, ht, hsl, rfl, hsp, hkp⟩ := hrel
      have htl := PT.spine_le t
      have htz : t.size = l.length := by rw [ht.size, hsl]
      have hmn : m ≤ l.length := by omega
      obtain ⟨As, cs, rfl, hcs, hms⟩ := hrs.shape
      have HRS := hide hrs
      have hpar := ht.par.2
      have HPA := hide (fun W v h => shapeParents_any s v W h)
      rw [hpar] at HPA
      have hUl : (t.pars (-1)).length = s.length := by rw [PT.pars_len, ht.size]
      obtain ⟨U, hU⟩ : ∃ U, U = t.pars (-1) := ⟨_, rfl⟩
      rw [← hU] at HPA hUl
      have HT := hide ht
      have HSL := hide hsl
      have HSPI := hide hsp
      have HU := hide hU
      have HUL := hide hUl
      have HTL : Hid (t.spine ≤ l.length) := hide (by omega)
      clear hrs ht hsp hpar hU hUl hsl htl htz
      go_wp2_with fail
      with_reducible refine (HPA.out _ _ HRS.out).mono ?_
      rintro e w4 ⟨v4, rfl, hr4, hb4⟩
      obtain ⟨Au, cu, rfl, hcu, hmu⟩ := hr4.shape
      have kk4 := Kp.of hb4
      have HU4 := hide hr4
      have HS4 := hide (HRS.out.kp kk4)
      have HK4 := hide (hkp.trans kk4)
      clear hr4 hb4 hkp kk4
      go_wp2
      go_loopw [7, 33] (LsRel s U w4) (fun _ i _ => U.length - (intOf i).toNat)
      case atStart => exact ⟨0, -1, by omega, rfl, rfl, .inl ⟨rfl, fun j h a => by omega⟩, Kp.refl _⟩
      case round =>
        obtain ⟨k, x, hk, rfl, rfl, hls, hkp2⟩ := hrel
        have HLS := hide hls
        clear hls
        by_cases hlt : k < U.length
        · have hks : k < s.length := by rw [← HUL.out]; exact hlt
          obtain ⟨bu, ou, rfl, _, u0⟩ := (HU4.out.kp hkp2).int hlt
          obtain ⟨b, o, rfl, _, c0, c1⟩ := (HS4.out.kp hkp2).pair hks
          have bk : (k : Int) < (s.length : Int) := by omega
          have bk0 : (0 : Int) ≤ (k : Int) := by omega
          by_cases hleft : (k : Int) < U[k]
          · have d1 : decide ((k : Int) < U[k]) = true := by simp [hleft]
            rcases id HLS.out with ⟨rfl, _⟩ | ⟨a, haU, has, rfl, hak, _, _⟩
            · have HN := hide (HLS.out.first hlt hks hleft)
              clear hleft
              go_wp2_with fail
              go_quiet (fail)
              go_wp2
              go_roundw
              case rel => exact ⟨k + 1, k, by omega, by go_num, rfl, HN.out, (by (focus ((repeat (first | (with_reducible assumption) | (with_reducible exact Kp.refl _) | (with_reducible apply Kp.drew) | (with_reducible apply Kp.drewN) | ((with_reducible apply Kp.setR); (focus (first | (with_reducible assumption) | (simp; done) | (simp; omega)))) | (with_reducible apply Kp.alloc) | ((with_reducible apply Kp.call); (with_reducible assumption)) | ((with_reducible apply Kp.app); (with_reducible assumption)))); done)))⟩
              case measure => simp [intOf]; omega
            · obtain ⟨b', o', e1, _, x0, x1⟩ := (HS4.out.kp hkp2).pair has
              injection e1 with e1
              injection e1 with e2 e3
              subst e2 e3
              have HM := hide (HLS.out.more hlt hks has hleft)
              have d2 : decide ((a : Int) < 0) = false := by simp <;> omega
              have ba : (a : Int) < (s.length : Int) := by omega
              have ba0 : (0 : Int) ≤ (a : Int) := by omega
              by_cases hdl : s[k].2 < s[a].2
              · have HN := hide (HM.out.1 hdl)
                clear hleft
                go_wp2_with fail
                go_quiet (fail)
                go_wp2
                go_roundw
                case rel => exact ⟨k + 1, k, by omega, by go_num, rfl, HN.out, (by (focus ((repeat (first | (with_reducible assumption) | (with_reducible exact Kp.refl _) | (with_reducible apply Kp.drew) | (with_reducible apply Kp.drewN) | ((with_reducible apply Kp.setR); (focus (first | (with_reducible assumption) | (simp; done) | (simp; omega)))) | (with_reducible apply Kp.alloc) | ((with_reducible apply Kp.call); (with_reducible assumption)) | ((with_reducible apply Kp.app); (with_reducible assumption)))); done)))⟩
                case measure => simp [intOf]; omega
              · have HN := hide (HM.out.2 hdl)
                have d3 : decide (s[k].2 < s[a].2) = false := by simp; omega
                clear hleft hdl
                go_wp2_with fail
                go_quiet (fail)
                go_wp2
                go_roundw
                case rel => exact ⟨k + 1, a, by omega, by go_num, rfl, HN.out, (by (focus ((repeat (first | (with_reducible assumption) | (with_reducible exact Kp.refl _) | (with_reducible apply Kp.drew) | (with_reducible apply Kp.drewN) | ((with_reducible apply Kp.setR); (focus (first | (with_reducible assumption) | (simp; done) | (simp; omega)))) | (with_reducible apply Kp.alloc) | ((with_reducible apply Kp.call); (with_reducible assumption)) | ((with_reducible apply Kp.app); (with_reducible assumption)))); done)))⟩
                case measure => simp [intOf]; omega
          · have d1 : decide ((k : Int) < U[k]) = false := by simp; omega
            have HN := hide (HLS.out.no hlt hleft)
            clear hleft
            go_wp2_with fail
            go_quiet (fail)
            go_wp2
            go_roundw
            case rel => exact ⟨k + 1, x, by omega, by go_num, rfl, HN.out, (by (focus ((repeat (first | (with_reducible assumption) | (with_reducible exact Kp.refl _) | (with_reducible apply Kp.drew) | (with_reducible apply Kp.drewN) | ((with_reducible apply Kp.setR); (focus (first | (with_reducible assumption) | (simp; done) | (simp; omega)))) | (with_reducible apply Kp.alloc) | ((with_reducible apply Kp.call); (with_reducible assumption)) | ((with_reducible apply Kp.app); (with_reducible assumption)))); done)))⟩
            case measure => simp [intOf]; omega
        · rcases id HLS.out with ⟨rfl, hno⟩ | ⟨a, haU, has, rfl, hak, hla, hmin⟩
          · have HE := hide (ways_end HT.out HU.out HUL.out (fun j h hj => hno j h (by omega)))
            have KF := hide (KW.out.trans (HK4.out.trans hkp2))
            have HS5 := hide (HS4.out.kp hkp2)
            have hmQ : Hid ((m : Int) ≤ if (l.length : Int) - 1 < 0 then 0 else (l.length : Int) - 1) := hide (by
              have h1 := HSPI.out
              have h2 := HTL.out
              have h3 := HSP.out
              split <;> omega)
            obtain ⟨Q, hQ⟩ : ∃ Q, (if (l.length : Int) - 1 < 0 then (0 : Int) else (l.length : Int) - 1) = Q := ⟨_, rfl⟩
            have hmQ2 : (m : Int) ≤ Q := by rw [← hQ]; exact hmQ.out
            clear hno
            go_wp2
            go_loopw [85] (CtR s.length wr) (fun i _ => s.length - (intOf i).toNat)
            case atStart => exact ⟨0, by omega, rfl, Kp.refl _⟩
            case round =>
              obtain ⟨j, hj, rfl, hkp3⟩ := hrel
              by_cases hjl : j < s.length
              · obtain ⟨b, o, rfl, _, c0, c1⟩ := (HS5.out.kp hkp3).pair hjl
                rw [HE.out j hjl] at c1
                have e1 : ((j : Int) != (j : Int)) = false := by simp
                go_wp2
                go_roundw
                case rel => exact ⟨j + 1, by omega, by go_num, hkp3.alloc⟩
                case measure => simp [intOf]; omega
              · go_wp2
                go_ret
                exact ⟨rfl, (KF.out.trans hkp3).bel⟩
          · obtain ⟨s', t', htu, ht', hsl', hsp', hsz'⟩ := ways_turn HT.out HU.out HUL.out a haU has hla (fun j h h2 _ hl => hmin j h h2 (by omega) hl)
            have htl' := PT.spine_le t'
            obtain ⟨b, o, rfl, _, c0, c1⟩ := (HS4.out.kp hkp2).pair has
            have HTB := hide (fun W v h => turn_any s s[a].1 v W h)
            rw [htu] at HTB
            have HT' := hide ht'
            have HSL' : Hid (s'.length = l.length) := hide (by rw [hsl', HSL.out])
            have HSP' : Hid (m + 1 + t0.spine = t'.spine) := hide (by have := HSPI.out; omega)
            have hml : m < l.length := by have h1 := HSPI.out; have h2 := HSL.out; omega
            have ba : (a : Int) < (s.length : Int) := by omega
            have ba0 : (0 : Int) ≤ (a : Int) := by omega
            have d2 : decide ((a : Int) < 0) = false := by simp <;> omega
            have d3 : decide ((l.length : Int) ≤ (m : Int)) = false := by simp; omega
            have d4 : decide (l.length ≤ m) = false := by simp; omega
            have HK5 := hide (HK4.out.trans hkp2)
            have HS5 := hide (HS4.out.kp hkp2)
            clear htu ht' hsl' hsp' hsz' htl' hla hmin
            go_wp2_with fail
            with_reducible refine (HTB.out _ _ HS5.out).mono ?_
            rintro e w6 ⟨v6, rfl, hr6, hb6⟩
            have HR6 := hide hr6
            have HK6 := hide (HK5.out.trans hb6)
            clear hr6 hb6
            go_wp2
            go_roundw
            case rel => exact ⟨s', t', m + 1, HR6.out, HT'.out, HSL'.out, by go_num, HSP'.out, HK6.out⟩
            case measure => simp [intOf]; omega
  · obtain ⟨r, hr⟩ : ∃ r, r = (parOf l).2 := ⟨_, rfl⟩
    rw [← hr] at HCK h0
    have hne : (r != 0) = true := by simp [h0]
    clear hr h0
    go_enter Try.func6, Try.ntmps6
    go_wp2_with fail
    with_reducible refine (shapeLives_any _).mono ?_
    rintro e w1 ⟨rfl, hb1⟩
    have kk1 := Kp.of hb1
    clear hb1
    go_wp2_with fail
    with_reducible refine (HCK.out _ _ (HR.out.kp kk1)).mono ?_
    rintro e w2 ⟨rfl, hb2⟩
    have kk2 := Kp.of hb2
    clear hb2
    go_wp2_with fail
    with_reducible refine (shapeLives_any _).mono ?_
    rintro e w3 ⟨rfl, hb3⟩
    have kk3 := Kp.of hb3
    clear hb3
    go_wp2
    go_ret
    exact ⟨rfl, (kk1.trans (kk2.trans kk3)).bel⟩
end Go.Proofs.Ytcpponjknmkfaaa
