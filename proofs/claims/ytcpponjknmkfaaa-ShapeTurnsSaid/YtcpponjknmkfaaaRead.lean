/-
  shape.read, shape.Parents: what they answer. Conditions: the list reads as l (RD).
-/
import Derived.Test.YtcpponjknmkfaaaParents
namespace Go.Proofs.Ytcpponjknmkfaaa
open Go.ChangeShapes Go.WideShapes Go.ChangeAt Go.RowKit
set_option linter.unusedVariables false
set_option linter.unusedSimpArgs false

def parOf (l : List IP) : List Int × Int := if mapRight l ≠ 0 then ([], mapRight l) else match ptR l 0 l.length 0 with | some t => (t.pars (-1), 0) | none => ([], 3)
theorem btw_t {n lo hi : Int} (h : lo ≤ n) (h2 : n ≤ hi) : btw n lo hi = true := (btw_iff _ _ _).2 ⟨h, h2⟩
theorem btw_f {n lo hi : Int} (h : n < lo ∨ hi < n) : btw n lo hi = false := (btw_f_iff _ _ _).2 (by omega)
set_option maxRecDepth 100000 in
set_option maxHeartbeats 2000000 in
theorem read_any (l : List IP) (v : Value) (w : World) (hr : RD w ePair v l) : Calls Try.prog 34 #[v] w (Ret2 eInt (parOf l) w) := by
  obtain ⟨A, c, rfl, hc, hm⟩ := hr.shape
  by_cases hlen : l.length > 200
  · have hmr : mapRight l = 2 := by rw [mapRight, if_pos hlen]
    have H1 : Hid (parOf l = ([], 2)) := hide (by rw [parOf, hmr, if_pos (by decide)])
    clear hmr
    go_enter Try.func34, Try.ntmps34
    go_wp2
    go_ret2
    exact ⟨_, by rw [H1.out]; rfl, by rw [H1.out]; exact RD.nil, Below.refl _ _⟩
  · have hres : Hid (mapRight l = mrFrom (-1) l) := hide (by simp [mapRight, hlen])
    have h3f : Hid (mrFrom (-1) l = 3 → parOf l = ([], 3)) := hide (fun h => by rw [parOf, hres.out, h, if_pos (by decide)])
    obtain ⟨C, hC, hmk⟩ := run_mk row_int 0 zero_int l.length (by omega) (by simp [maxLen]; omega)
    have HR := hide hr
    clear hr
    go_enter Try.func34, Try.ntmps34
    go_wp2
    go_loopw [12] (CRel l w) (fun i wr => l.length - (intOf i).toNat)
    case atStart => exact ⟨0, -1, by omega, rfl, by omega, by omega, fun _ => rfl, fun _ h => by omega, rfl, Below.refl _ _⟩
    case round =>
      obtain ⟨k, last, hk, rfl, h1, h2, h3, h4, hmr, hbel⟩ := hrel
      have hmr' := hide hmr
      clear hmr
      have hz := hbel.size
      by_cases hlt : k < l.length
      · obtain ⟨b, o, rfl, hb, c0, c1⟩ := (HR.out.below hbel).pair hlt
        have hd := mrFrom_drop l k hlt last
        have hkp : Kp w wr := hbel
        by_cases hlo : l[k].1 < 0
        · rw [btw_f (.inl (by omega)), if_neg (by simp)] at hd
          have HP := hide (h3f.out (by rw [← hmr'.out, hd]))
          clear hd h3 h4
          go_wp2_with fail
          go_quiet (fail)
          go_wp2
          go_ret2
          exact ⟨_, by rw [HP.out]; rfl, by rw [HP.out]; exact RD.nil, Kp.bel (by (focus ((repeat (first | (with_reducible assumption) | (with_reducible exact Kp.refl _) | (with_reducible apply Kp.drew) | (with_reducible apply Kp.drewN) | ((with_reducible apply Kp.setR); (focus (first | (with_reducible assumption) | (simp; done) | (simp; omega)))) | (with_reducible apply Kp.alloc) | ((with_reducible apply Kp.call); (with_reducible assumption)) | ((with_reducible apply Kp.app); (with_reducible assumption)))); done)))⟩
        · by_cases hhi : 1000000 < l[k].1
          · rw [btw_f (.inr hhi), if_neg (by simp)] at hd
            have HP := hide (h3f.out (by rw [← hmr'.out, hd]))
            have hg3 : decide (l[k].1 < 0) = false := by simp; omega
            clear hd h3 h4 hlo
            go_wp2_with fail
            go_quiet (fail)
            go_wp2
            go_ret2
            exact ⟨_, by rw [HP.out]; rfl, by rw [HP.out]; exact RD.nil, Kp.bel (by (focus ((repeat (first | (with_reducible assumption) | (with_reducible exact Kp.refl _) | (with_reducible apply Kp.drew) | (with_reducible apply Kp.drewN) | ((with_reducible apply Kp.setR); (focus (first | (with_reducible assumption) | (simp; done) | (simp; omega)))) | (with_reducible apply Kp.alloc) | ((with_reducible apply Kp.call); (with_reducible assumption)) | ((with_reducible apply Kp.app); (with_reducible assumption)))); done)))⟩
          · by_cases hk0 : k = 0
            · have hl : last = -1 := h3 hk0
              rw [btw_t (by omega) (by omega), if_pos rfl] at hd
              have HD := hide hd
              have hg : decide (0 < k) = false := by simp; omega
              have hg2 : decide (1000000 < l[k].1) = false := by simp; omega
              have hg3 : decide (l[k].1 < 0) = false := by simp; omega
              have HL := hide hl
              have HK0 := hide hk0
              have HN : Hid (0 ≤ l[k].1) := hide (by omega)
              have HN2 : Hid (l[k].1 ≤ 1000000) := hide (by omega)
              clear hd h3 h4 hl hk0 hlo hhi
              go_wp2_with fail
              go_quiet (fail)
              go_wp2
              go_roundw
              case rel => exact ⟨k+1, l[k].1, by omega, by go_num, by have := HN.out; omega, HN2.out, fun h => by omega, fun _ _ => ⟨rfl, HN.out⟩, by rw [← HD.out, hmr'.out], Kp.bel (by (focus ((repeat (first | (with_reducible assumption) | (with_reducible exact Kp.refl _) | (with_reducible apply Kp.drew) | (with_reducible apply Kp.drewN) | ((with_reducible apply Kp.setR); (focus (first | (with_reducible assumption) | (simp; done) | (simp; omega)))) | (with_reducible apply Kp.alloc) | ((with_reducible apply Kp.call); (with_reducible assumption)) | ((with_reducible apply Kp.app); (with_reducible assumption)))); done)))⟩
              case measure => simp [intOf]; omega
            · have hkm : k - 1 < l.length := by omega
              obtain ⟨hl, hl0⟩ := h4 hkm (by omega)
              obtain ⟨b2, o2, e2, _, c2, _⟩ := (HR.out.below hbel).pair (k := k - 1) hkm
              injection e2 with e2
              injection e2 with e3 e4
              subst e3 e4
              have hg : decide (0 < k) = true := by simp; omega
              have hw1 : IntKind.i64.wrap ((k : Int) - 1) = (k : Int) - 1 := IntWalk.i64_in _ (by omega)
              have hw2 : (0 : Int) ≤ (k : Int) - 1 := by omega
              have hw3 : (k : Int) - 1 < (l.length : Int) := by omega
              have hw4 : ((k : Int) - 1).toNat = k - 1 := by omega
              have hg2 : decide (1000000 < l[k].1) = false := by simp; omega
              have hg3 : decide (l[k].1 < 0) = false := by simp; omega
              by_cases hge : l[k].1 ≤ l[k-1].1
              · rw [btw_f (.inl (by omega)), if_neg (by simp)] at hd
                have HP := hide (h3f.out (by rw [← hmr'.out, hd]))
                clear hd h3 h4 hl hk0 hlo hhi
                go_wp2_with fail
                go_quiet (fail)
                go_wp2
                go_ret2
                exact ⟨_, by rw [HP.out]; rfl, by rw [HP.out]; exact RD.nil, Kp.bel (by (focus ((repeat (first | (with_reducible assumption) | (with_reducible exact Kp.refl _) | (with_reducible apply Kp.drew) | (with_reducible apply Kp.drewN) | ((with_reducible apply Kp.setR); (focus (first | (with_reducible assumption) | (simp; done) | (simp; omega)))) | (with_reducible apply Kp.alloc) | ((with_reducible apply Kp.call); (with_reducible assumption)) | ((with_reducible apply Kp.app); (with_reducible assumption)))); done)))⟩
              · rw [btw_t (by omega) (by omega), if_pos rfl] at hd
                have HD := hide hd
                have HL := hide hl
                have HN : Hid (0 ≤ l[k].1) := hide (by omega)
                have HN2 : Hid (l[k].1 ≤ 1000000) := hide (by omega)
                clear hd h3 h4 hl hk0 hlo hhi
                go_wp2_with fail
                go_quiet (fail)
                go_wp2
                go_roundw
                case rel => exact ⟨k+1, l[k].1, by omega, by go_num, by have := HN.out; omega, HN2.out, fun h => by omega, fun _ _ => ⟨rfl, HN.out⟩, by rw [← HD.out, hmr'.out], Kp.bel (by (focus ((repeat (first | (with_reducible assumption) | (with_reducible exact Kp.refl _) | (with_reducible apply Kp.drew) | (with_reducible apply Kp.drewN) | ((with_reducible apply Kp.setR); (focus (first | (with_reducible assumption) | (simp; done) | (simp; omega)))) | (with_reducible apply Kp.alloc) | ((with_reducible apply Kp.call); (with_reducible assumption)) | ((with_reducible apply Kp.app); (with_reducible assumption)))); done)))⟩
                case measure => simp [intOf]; omega
      · have hmr0 : mrFrom (-1) l = 0 := by rw [← hmr'.out, mrFrom_end _ _ hlt]
        have hpo : parOf l = match ptR l 0 l.length 0 with | some t => (t.pars (-1), 0) | none => ([], 3) := by rw [parOf, hres.out, hmr0]; simp
        have hkp : Kp w wr := hbel
        have hkl : k = l.length := by omega
        have HKL := hide hkl
        have HPO := hide hpo
        clear hmr0 hpo hmr' h3 h4 hkl
        have HRL : Hid ((List.replicate l.length (0 : Int)).length = l.length) := hide (by simp)
        have HCP := hide (fun r (hres : (ptR l 0 l.length 0).isSome = r) (h : AR (wr.alloc (.cells C 3)) wr.heap.size 3 eInt (List.replicate l.length (0 : Int))) (hx : 0 < l.length → (Value.slice A l.length c).ownBlock ≠ some wr.heap.size) =>
          parents_any l (.slice A l.length c) wr.heap.size (by omega) hx 1000 0 l.length (-1) 0 (List.replicate l.length 0) r (wr.alloc (.cells C 3)) (by omega) (by omega) (by omega) (by omega) (by omega) ((HR.out.kp hkp).alloc _) h HRL.out hres)
        rw [HRL.out] at HCP
        simp only [Int.natCast_zero] at HCP
        have hx : Hid (0 < l.length → (Value.slice A l.length c).ownBlock ≠ some wr.heap.size) := hide (fun h0 => by
          obtain ⟨b, o, e, hb, _⟩ := (HR.out.kp hkp).pair h0
          subst e
          intro e
          injection e with e
          simp at e
          omega)
        cases hpt : ptR l 0 l.length 0 with
        | none =>
          have HP : Hid (parOf l = ([], 3)) := hide (by rw [HPO.out, hpt])
          have HPT := hide hpt
          clear hpt
          go_wp2_with fail
          refine (HCP.out false (by rw [HPT.out]; rfl) (AR.made hC) hx.out).mono ?_
          rintro e w2 ⟨out1, rfl, ha1, hl1, hk1, hs1, ht1⟩
          have HA1 := hide ha1
          clear ha1 hl1 hs1 ht1
          go_wp2
          go_ret2
          exact ⟨_, by rw [HP.out]; rfl, by rw [HP.out]; exact RD.nil, (hk1.kp (Kp.alloc hkp) hkp.size).bel⟩
        | some t =>
          have HP : Hid (parOf l = (t.pars (-1), 0)) := hide (by rw [HPO.out, hpt])
          have hsz := ptR_size l 0 l.length 0 t (by omega) hpt
          have HPT := hide hpt
          clear hpt
          go_wp2_with fail
          refine (HCP.out true (by rw [HPT.out]; rfl) (AR.made hC) hx.out).mono ?_
          rintro e w2 ⟨out1, rfl, ha1, hl1, hk1, hs1, ht1⟩
          have he : out1 = t.pars (-1) := by
            have h9 := PT.pars_len t (-1)
            have h10 := HRL.out
            refine List.ext_getElem? fun j => ?_
            by_cases hj : j < l.length
            · have := ht1 t HPT.out j (by omega)
              rwa [Nat.zero_add] at this
            · rw [List.getElem?_eq_none (by omega), List.getElem?_eq_none (by omega)]
          subst he
          have HA1 := hide ha1
          clear ha1 hs1 ht1
          have HL1 : Hid ((t.pars (-1)).length = l.length) := hide (by rw [hl1, HRL.out])
          clear hl1
          go_wp2
          go_ret2
          refine ⟨_, by rw [HP.out]; rfl, ?_, (hk1.kp (Kp.alloc hkp) hkp.size).bel⟩
          rw [HP.out, ← HL1.out]
          exact HA1.out.rd (by rw [HL1.out]; unfold maxLen; omega)
theorem parents_of (l : List IP) (v : Value) (w : World) (hr : RD w ePair v l) : Calls Try.prog 10 #[v] w (Ret2 eInt (parOf l) w) := by
  have HR := hide hr
  clear hr
  go_enter Try.func10, Try.ntmps10
  go_wp2_with fail
  refine (read_any l v w HR.out).mono ?_
  rintro e w1 ⟨v1, rfl, hr1, hb1⟩
  have HR1 := hide hr1
  clear hr1
  go_wp2
  go_ret2
  exact ⟨v1, rfl, HR1.out, hb1⟩
end Go.Proofs.Ytcpponjknmkfaaa
