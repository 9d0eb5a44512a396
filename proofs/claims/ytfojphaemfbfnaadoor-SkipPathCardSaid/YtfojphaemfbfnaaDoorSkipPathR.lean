/-
  hedgkeep.SkipPath: the walk: it answers true. Conditions: the keys read as ints (RD); the table of math/bits holds what it is laid with (DTb).
  hedgkeep.SkipPath: THE STATEMENT: for every input it answers true. Conditions: the table of math/bits holds what the program's text lays (tied on the card).
-/
import Derived.Test.YtfojphaemfbfnaaDoorG25
import Derived.Test.YtfojphaemfbfnaaDoorG2
import Derived.Test.YtfojphaemfbfnaaDoorCards
import Derived.Test.YtfojphaemfbfnaaDoorTie
import Derived.SevenTiedAt

namespace Go.Proofs.YtfojphaemfbfnaaDoor
open Go.ChangeShapes Go.WideShapes Go.ChangeAt Go.RowKit
set_option linter.unusedVariables false
set_option linter.unusedSimpArgs false

theorem contains_same (l : List Int) (y : Int) (v : Value) (w : World) (hr : RD w eInt v l) (hy : y ∈ l) : Calls Tryd.prog 26 #[v, .int .i64 y] w (fun e w' => e = .returned (.bool true) ∧ w = w') := by
  have HI := hide (index_any l y v w hr)
  clear hr
  go_enter Tryd.func26, Tryd.ntmps26
  go_wp2_with fail
  with_reducible refine HI.out.mono ?_
  rintro e w1 ⟨i, rfl, hi, rfl⟩
  have d1 : decide (0 ≤ i) = true := decide_eq_true (hi.2 hy)
  clear hi hy
  go_wp2
  go_ret
  exact ⟨rfl, rfl⟩
theorem stop_facts {ks : List Int} {key la : Int} {P : List IP} (h : StI ks key hgtF 12 P la) {i : Nat} (hi : i < P.length) : ∃ ht, ht = hgtF P[i].2 ∧ 1 ≤ ht ∧ ht ≤ 12 ∧ P[i].1 = ht - 1 ∧ P[i].2 ∈ ks ∧ P[i].2 < key := by
  obtain ⟨g1, g2, g3, _, _⟩ := h.all _ (List.getElem_mem hi)
  exact ⟨_, rfl, (hgtF_in _).1, (hgtF_in _).2, g3, g1, g2⟩
theorem stop_up {ks : List Int} {key la : Int} {P : List IP} (h : StI ks key hgtF 12 P la) {i j : Nat} (hi : i < P.length) (hj : j < i) : P[j].2 < P[i].2 ∧ P[i].1 ≤ P[j].1 := List.pairwise_iff_getElem.1 h.up j i (by omega) hi hj
def SpaRel (P : List IP) (W : World) (iv : Value) (wr : World) : Prop := ∃ i : Nat, i ≤ P.length ∧ iv = .int .i64 (i : Int) ∧ Kp W wr
def SpbRel (ks : List Int) (key : Int) (W : World) (bv iv : Value) (wr : World) : Prop := ∃ i : Nat, i ≤ ks.length ∧ iv = .int .i64 (i : Int) ∧ bv = .int .i64 (belowL (ks.take i) key) ∧ W = wr
set_option maxRecDepth 100000 in
set_option maxHeartbeats 16000000 in
theorem skipPath_walk (ks : List Int) (key : Int) (v : Value) (w : World) (hr : RD w eInt v ks) (hkey : -9223372036854775808 ≤ key ∧ key ≤ 9223372036854775807) (hdb : DTb w) : Calls Tryd.prog 7 #[v, .int .i64 key] w (Ret (.bool true) w) := by
  have HR := hide hr
  have HDB := hide hdb
  have HPA := hide (skPath_any ks key _ w hr hdb)
  unfold pathOf at HPA
  obtain ⟨A, c, rfl, hc, hm⟩ := hr.shape
  clear hdb hr hkey
  by_cases hgo : krL ks = 0 ∧ 0 ≤ key ∧ key ≤ 1000000
  · obtain ⟨he, hk⟩ := hgo
    rw [if_pos he, if_pos hk] at HPA
    obtain ⟨hlen, hpair, hbnd⟩ := krL_in he
    have hst := stI_all (key := key) hpair hbnd 12 (Nat.le_refl _)
    have hbl := belowL_st (key := key) hpair hbnd
    have hPl := (stAll_in hbnd key 12).2.2
    rw [← hbl] at hst
    obtain ⟨P, hP⟩ : ∃ P, P = (stAll ks key 12).1 := ⟨_, rfl⟩
    rw [← hP] at HPA hst hPl
    have hPl2 : P.length ≤ 2400 := Nat.le_trans hPl (by omega)
    have HST := hide hst
    have HBND := hide hbnd
    clear hP hbl hPl hpair hbnd he hk hst
    go_enter Tryd.func7, Tryd.ntmps7
    go_wp2_with fail
    with_reducible refine HPA.out.mono ?_
    rintro e w1 ⟨v1, rfl, hr1, hb1⟩
    have kk1 : Kp w w1 := Kp.of hb1
    have HR1 := hide hr1
    obtain ⟨A1, c1, rfl, _, _⟩ := hr1.shape
    clear hr1 hb1
    go_wp2_with fail
    with_reducible refine (skipLives_any _ (HDB.out.kp kk1)).mono ?_
    rintro e w2 ⟨rfl, hb2⟩
    have kk2 : Kp w1 w2 := Kp.of hb2
    clear hb2
    go_wp2
    go_loopw [32] (SpaRel P w2) (fun i _ => P.length - (intOf i).toNat)
    case atStart => exact ⟨0, by omega, rfl, Kp.refl _⟩
    case round =>
      obtain ⟨i, hi, rfl, hkp⟩ := hrel
      have HKP := hide hkp
      by_cases hlt : i < P.length
      · obtain ⟨b, o, rfl, hbl, c0, c1'⟩ := (HR1.out.kp (kk2.trans hkp)).pair hlt
        obtain ⟨ht, hht, hh1, hh2, g3, g1, g2⟩ := stop_facts HST.out hlt
        obtain ⟨⟨rw0, x⟩, hx⟩ : ∃ p, p = P[i] := ⟨_, rfl⟩
        rw [← hx] at c0 c1' g1 g2 g3 hht
        simp only at c0 c1' g1 g2 g3 hht
        have HHA := hide (fun W (h : Kp wr W) => height_any x W (HDB.out.kp (kk1.trans (kk2.trans (hkp.trans h)))))
        rw [← hht] at HHA
        clear hht
        have HCO := hide (fun W (h : Kp wr W) => contains_same ks x _ W (HR.out.kp (kk1.trans (kk2.trans (hkp.trans h)))) g1)
        have HHX := hide hx
        clear hx
        have s1 : IntKind.i64.wrap (ht - 1) = rw0 := by rw [IntWalk.i64_in _ (by omega)]; omega
        have d3 : decide (key ≤ x) = false := decide_eq_false (by omega)
        have dr : (rw0 != rw0) = false := by simp
        have nb : ¬ b = wr.heap.size := by omega
        have nb2 : ¬ wr.heap.size = b := by omega
        by_cases hi0 : 0 < i
        · obtain ⟨j, hj⟩ : ∃ j, j + 1 = i := ⟨i - 1, by omega⟩
          have hj2 : j < P.length := by omega
          have hup2 := stop_up HST.out hlt (j := j) (by omega)
          obtain ⟨b', o', e1, _, e0, e1'⟩ := (HR1.out.kp (kk2.trans hkp)).pair (k := j) hj2
          injection e1 with e1
          injection e1 with e2 e3
          subst e2 e3
          rw [← HHX.out] at hup2
          obtain ⟨⟨rw1, y⟩, hy⟩ : ∃ p, p = P[j] := ⟨_, rfl⟩
          rw [← hy] at e0 e1' hup2
          simp only at e0 e1' hup2
          have d1 : decide (x ≤ y) = false := decide_eq_false (by omega)
          have d2 : decide (rw1 < rw0) = false := decide_eq_false (by omega)
          have gg : decide (0 < i) = true := decide_eq_true hi0
          have gi : decide ((0 : Int) < (i : Int)) = true := by simp; omega
          have si : IntKind.i64.wrap ((i : Int) - 1) = (j : Int) := by rw [IntWalk.i64_in _ (by omega)]; omega
          have j0 : (0 : Int) ≤ (j : Int) := by omega
          have j1 : (j : Int) < (P.length : Int) := by omega
          clear hup2 hy g1 g2 g3 hj hkp
          go_wp2
          go_quiet ((first | (go_at_call 11; exact Calls.quiet_of_same ((HHA.out _ (by (focus ((repeat (first | (with_reducible assumption) | (with_reducible exact Kp.refl _) | (with_reducible apply Kp.drew) | (with_reducible apply Kp.drewN) | ((with_reducible apply Kp.setR); (focus (first | (with_reducible assumption) | (simp; done) | (simp; omega)))) | (with_reducible apply Kp.alloc) | ((with_reducible apply Kp.call); (with_reducible assumption)) | ((with_reducible apply Kp.app); (with_reducible assumption)))); done)))).mono fun _ _ h => ⟨h.1, h.2.symm⟩)) | (go_at_call 26; exact Calls.quiet_of_same ((HCO.out _ (by (focus ((repeat (first | (with_reducible assumption) | (with_reducible exact Kp.refl _) | (with_reducible apply Kp.drew) | (with_reducible apply Kp.drewN) | ((with_reducible apply Kp.setR); (focus (first | (with_reducible assumption) | (simp; done) | (simp; omega)))) | (with_reducible apply Kp.alloc) | ((with_reducible apply Kp.call); (with_reducible assumption)) | ((with_reducible apply Kp.app); (with_reducible assumption)))); done)))).mono fun _ _ h => ⟨h.1, h.2.symm⟩))))
          go_wp2
          go_roundw
          case rel => exact ⟨i + 1, by omega, by go_num, by have h := HKP.out; (focus ((repeat (first | (with_reducible assumption) | (with_reducible exact Kp.refl _) | (with_reducible apply Kp.drew) | (with_reducible apply Kp.drewN) | ((with_reducible apply Kp.setR); (focus (first | (with_reducible assumption) | (simp; done) | (simp; omega)))) | (with_reducible apply Kp.alloc) | ((with_reducible apply Kp.call); (with_reducible assumption)) | ((with_reducible apply Kp.app); (with_reducible assumption)))); done))⟩
          case measure => simp [intOf] <;> omega
        · obtain rfl : i = 0 := by omega
          simp only [Nat.zero_mul, Nat.add_zero] at c0 c1'
          clear g1 g2 g3 hkp
          go_wp2
          go_quiet ((first | (go_at_call 11; exact Calls.quiet_of_same ((HHA.out _ (by (focus ((repeat (first | (with_reducible assumption) | (with_reducible exact Kp.refl _) | (with_reducible apply Kp.drew) | (with_reducible apply Kp.drewN) | ((with_reducible apply Kp.setR); (focus (first | (with_reducible assumption) | (simp; done) | (simp; omega)))) | (with_reducible apply Kp.alloc) | ((with_reducible apply Kp.call); (with_reducible assumption)) | ((with_reducible apply Kp.app); (with_reducible assumption)))); done)))).mono fun _ _ h => ⟨h.1, h.2.symm⟩)) | (go_at_call 26; exact Calls.quiet_of_same ((HCO.out _ (by (focus ((repeat (first | (with_reducible assumption) | (with_reducible exact Kp.refl _) | (with_reducible apply Kp.drew) | (with_reducible apply Kp.drewN) | ((with_reducible apply Kp.setR); (focus (first | (with_reducible assumption) | (simp; done) | (simp; omega)))) | (with_reducible apply Kp.alloc) | ((with_reducible apply Kp.call); (with_reducible assumption)) | ((with_reducible apply Kp.app); (with_reducible assumption)))); done)))).mono fun _ _ h => ⟨h.1, h.2.symm⟩))))
          go_wp2
          go_roundw
          case rel => exact ⟨0 + 1, by omega, by go_num, by have h := HKP.out; (focus ((repeat (first | (with_reducible assumption) | (with_reducible exact Kp.refl _) | (with_reducible apply Kp.drew) | (with_reducible apply Kp.drewN) | ((with_reducible apply Kp.setR); (focus (first | (with_reducible assumption) | (simp; done) | (simp; omega)))) | (with_reducible apply Kp.alloc) | ((with_reducible apply Kp.call); (with_reducible assumption)) | ((with_reducible apply Kp.app); (with_reducible assumption)))); done))⟩
          case measure => simp [intOf] <;> omega
      · obtain ⟨wq, hwq⟩ : ∃ wq, wq = wr := ⟨_, rfl⟩
        have HREL : Hid (SpbRel ks key wq (.int .i64 (-1)) (.int .i64 0) wr) := hide ⟨0, by omega, rfl, by rw [List.take_zero]; rfl, hwq⟩
        have HQ : Hid (Kp w2 wq) := hide (by rw [hwq]; exact hkp)
        clear hkp hwq
        go_wp2
        go_loopw [9, 86] (SpbRel ks key wq) (fun _ i _ => ks.length - (intOf i).toNat)
        case atStart => exact HREL.out
        case round =>
          clear HREL
          obtain ⟨j, hj, rfl, rfl, rfl⟩ := hrel
          by_cases hjl : j < ks.length
          · obtain ⟨b, o, rfl, _, c0⟩ := (HR.out.kp (kk1.trans (kk2.trans HQ.out))).int hjl
            have hst := belowL_take ks key j hjl
            obtain ⟨y, hy⟩ : ∃ y, y = ks[j] := ⟨_, rfl⟩
            rw [← hy] at c0 hst
            by_cases hyk : y < key
            · rw [if_pos hyk] at hst
              have HS := hide hst
              have d1 : decide (y < key) = true := decide_eq_true hyk
              clear hst hy hyk
              go_wp2
              go_roundw
              case rel => exact ⟨j + 1, by omega, by go_num, by rw [HS.out], rfl⟩
              case measure => simp [intOf] <;> omega
            · rw [if_neg hyk] at hst
              have HS := hide hst
              have d1 : decide (y < key) = false := decide_eq_false hyk
              clear hst hy hyk
              go_wp2
              go_roundw
              case rel => exact ⟨j + 1, by omega, by go_num, by rw [HS.out], rfl⟩
              case measure => simp [intOf] <;> omega
          · have htk : ks.take j = ks := List.take_of_length_le (by omega)
            rw [htk]
            clear htk
            rcases HST.out.last with ⟨e1, e2⟩ | ⟨Q, r, e1⟩
            · rw [e2]
              have hl0 : P.length = 0 := by rw [e1]; rfl
              have d1 : ((P.length : Int) == 0) = true := by simp [hl0]
              clear e1 e2 hl0
              go_wp2
              go_ret
              exact ⟨rfl, (kk1.trans (kk2.trans HQ.out)).bel⟩
            · obtain ⟨bl, hbl⟩ : ∃ bl, bl = belowL ks key := ⟨_, rfl⟩
              rw [← hbl] at e1 ⊢
              have hlen2 : P.length = Q.length + 1 := by rw [e1]; simp
              have hlt2 : Q.length < P.length := by omega
              obtain ⟨b, o, rfl, _, c0, c1'⟩ := (HR1.out.kp (kk2.trans HQ.out)).pair hlt2
              have e3 : P[Q.length].2 = bl := by simp only [e1]; simp
              rw [e3] at c1'
              have d1 : ((P.length : Int) == 0) = false := beq_eq_false_iff_ne.2 (by omega)
              have d2 : decide (0 < P.length) = true := decide_eq_true (by omega)
              have s2 : IntKind.i64.wrap ((P.length : Int) - 1) = (Q.length : Int) := by
                have h9 := hlen2
                rw [IntWalk.i64_in _ (by omega)]; omega
              have i0 : (0 : Int) ≤ (Q.length : Int) := by omega
              have i1 : (Q.length : Int) < (P.length : Int) := by omega
              have hne : (bl == -1) = false := by
                have := (HST.out.all (r, bl) (by rw [← hbl] at *; rw [e1]; simp)).1
                have := HBND.out _ this
                simp; omega
              clear e1 e3 hlen2 hbl c0
              go_wp2
              go_ret
              exact ⟨rfl, (kk1.trans (kk2.trans HQ.out)).bel⟩
  · have hbad : ∃ er, er ≠ 0 ∧ (if krL ks = 0 then (if 0 ≤ key ∧ key ≤ 1000000 then ((stAll ks key 12).1, 0) else (([], 1) : List IP × Int)) else ([], krL ks)) = ([], er) := by
      by_cases he : krL ks = 0
      · rw [if_pos he, if_neg (fun h => hgo ⟨he, h⟩)]
        exact ⟨1, by decide, rfl⟩
      · rw [if_neg he]
        exact ⟨_, he, rfl⟩
    obtain ⟨er, hne, hE⟩ := hbad
    rw [hE] at HPA
    have de : (er != 0) = true := by simpa using hne
    clear hE hne hgo
    go_enter Tryd.func7, Tryd.ntmps7
    go_wp2_with fail
    with_reducible refine HPA.out.mono ?_
    rintro e w1 ⟨v1, rfl, hr1, hb1⟩
    have kk1 : Kp w w1 := Kp.of hb1
    obtain ⟨A1, c1, hv1, _, _⟩ := hr1.shape
    subst hv1
    clear hr1 hb1
    go_wp2_with fail
    with_reducible refine (skipLives_any _ (HDB.out.kp kk1)).mono ?_
    rintro e w2 ⟨rfl, hb2⟩
    have kk2 : Kp w1 w2 := Kp.of hb2
    clear hb2
    go_wp2_with fail
    with_reducible refine (skipLives_any _ (HDB.out.kp (kk1.trans kk2))).mono ?_
    rintro e w3 ⟨rfl, hb3⟩
    have kk3 : Kp w2 w3 := Kp.of hb3
    clear hb3
    go_wp2
    go_ret
    exact ⟨rfl, (kk1.trans (kk2.trans kk3)).bel⟩
end Go.Proofs.YtfojphaemfbfnaaDoor
namespace Go.Proofs.YtfojphaemfbfnaaDoor
open Go.ChangeShapes Go.WideShapes Go.ChangeAt Go.RowKit Go.Deep
set_option linter.unusedVariables false
set_option linter.unusedSimpArgs false

set_option maxRecDepth 100000 in
theorem skipPath_lifted (os : Os) (started : os.Started) (H : Type) (enc : TypeId × Value → H) :
    ReturnsInHanded {} Tryd.checked os 7 .any (fun w args => (Rows.skipPathSpec.pre enc Tryd.prog Tryd.f7 Rows.skipPathRow.domain false w args ∧ laidMetH Tryd.prog ZLaid w) ∧ sizedMet enc Tryd.prog Tryd.f7 (OpenSpec.ofChange Rows.skipPathSpec) false w args) (Rows.skipPathSpec.post enc Tryd.prog Tryd.f7 false true false false) := by
  refine returnsInHanded_of_change_and (C := Tryd.checked) (X := fun w _ => laidMetH Tryd.prog ZLaid w) (fun _ _ _ hh h => h.of_heap hh) own started (by kernel_rfl) Tryd.func7
    (ChangeSpec.witness_at (enc := enc) (C := Tryd.checked) (os := os) (X := fun w _ => laidMetH Tryd.prog ZLaid w) false (laidWorldZ os) #[.slice none 0 0, .int .i64 0] 8 rfl (by kernel_rfl) (by kernel_rfl) (by kernel_rfl) (by kernel_rfl) (by kernel_rfl) (laidZ_met os _)) ?_
  intro W base args ds gs before hval0 hW hcnd _ hL _
  have hval : ∀ (j : Nat) t v, Tryd.f7.params[j]? = some t → args[j]? = some v → Value.okWide Tryd.prog W .any base t v := hval0
  have hW' := hW
  obtain ⟨p, q, hA0, hV, rfl, hfz, hnd⟩ := hW
  have hA : DataW.TrodAll enc Tryd.prog W 0 (fun _ => true) true Tryd.f7.params.toList args.toList ds p := hA0
  rw [Tryd.params7] at hA hval
  obtain ⟨v0, vs0, d0, ds0, p0, q0, hargs, rfl, rfl, h0, r0⟩ := trodAll_cons hA
  obtain ⟨v1, vs1, d1, ds1, p1, q1, rfl, rfl, rfl, h1, r1⟩ := trodAll_cons r0
  obtain ⟨rfl, rfl, rfl⟩ := trodAll_nil r1
  obtain rfl : args = #[v0, v1] := by cases args; simp_all
  obtain ⟨rfl, rfl⟩ := trodVars_none hV
  obtain ⟨a0, n0, c0, rfl⟩ := okWide_slice Tryd.underlying22 (hval 0 22 v0 rfl rfl)
  obtain ⟨n1, rfl⟩ := okWide_int Tryd.underlying3 (hval 1 3 v1 rfl rfl)
  have lt0 : ∀ x ∈ p0, x.block < W.heap.size := by obtain ⟨m, hm⟩ := h0; exact DataW.trod_lt m _ _ _ hm
  have lt1 : ∀ x ∈ p1, x.block < W.heap.size := by obtain ⟨m, hm⟩ := h1; exact DataW.trod_lt m _ _ _ hm
  obtain ⟨l0, w0⟩ := arg_ints h0
  have w1 : -9223372036854775808 ≤ n1 ∧ n1 ≤ 9223372036854775807 := by obtain ⟨m, hm⟩ := h1; exact wf_i64 Tryd.underlying3 hm
  clear hA0 hval0
  refine (skipPath_walk l0 n1 _ W w0 w1 (db_of_laid hL)).mono fun e W' ⟨he, bel⟩ => ?_
  subst he
  exact ⟨_, rfl, _, _, _, [], _, [], hW', trodAll_mk1 (shut_bool Tryd.underlying4 _), (trodAll_cons_mk (Below.trod laidOut (by kernel_rfl) (of_decide_eq_true (by kernel_rfl)) h0 bel lt0) (trodAll_cons_mk (Below.trod laidOut (by kernel_rfl) (of_decide_eq_true (by kernel_rfl)) h1 bel lt1) trodAll_mk0)), rfl, bel.frame _, fun h => by cases h⟩

set_option maxRecDepth 100000 in
set_option maxHeartbeats 8000000 in
theorem skipPath_closed : joinedFacts Tryd.checked.prog 7 Tryd.f7 Rows.skipPathSpec Rows.skipPathRow = true := by
  unfold joinedFacts
  repeat' (with_reducible refine and_true_of ?_ ?_)
  all_goals (as_aux_lemma => kernel_rfl)
theorem skipPath_over : Rows.skipPathRow.holds Tryd.pinned (OpenSpec.ofChange Rows.skipPathSpec) :=
  OpenClaim.holds_of_wide 7 Tryd.f7 rfl rfl rfl rfl rfl rfl rfl ⟨rfl, rfl, rfl, rfl, rfl⟩ rfl rfl rfl rfl rfl (by as_aux_lemma => kernel_rfl) Tryd.func7 skipPath_closed
    (of_decide_eq_true (by as_aux_lemma => kernel_rfl)) (by as_aux_lemma => unfold Func.isWrapper; first | (rw [if_pos (by decide +kernel)]; kernel_rfl) | (rw [if_neg (by decide +kernel)]; exact ⟨rfl, rfl⟩))
    (fun os started H enc _ => skipPath_lifted os started H enc)
set_option maxRecDepth 100000 in
theorem skipPath_proved : Rows.SkipPathCardSaid :=
  Claim7.holds_tied_plain_at .later [] [.data] true _ false skipPath_over (fun _ h => by cases h) (by kernel_rfl) (fun _ h => by cases h) skipPath_row_tie rfl ⟨rfl, rfl⟩ (by kernel_rfl) rfl
    (fun f fn hf hfn => by
      obtain rfl : f = 7 := Option.some.inj ((show Tryd.prog.funcNamed "hedgewright/hedgkeep.SkipPath" = some 7 by kernel_rfl).symm.trans hf) |>.symm
      obtain rfl : fn = Tryd.f7 := (Option.some.inj (Tryd.func7.symm.trans hfn)).symm
      exact ⟨by kernel_rfl, fun j t ht => by
        have h : (Tryd.f7.params.toList.all fun t => !Tryd.prog.wantsStandIn t) = true := by kernel_rfl
        have hm : t ∈ Tryd.f7.params.toList := by
          rw [Array.mem_toList_iff]
          exact Array.mem_of_getElem? ht
        have h2 : Tryd.prog.wantsStandIn t = false := by simpa using List.all_eq_true.1 h t hm
        exact h2⟩)
    (by kernel_rfl)
#print axioms skipPath_proved
end Go.Proofs.YtfojphaemfbfnaaDoor
