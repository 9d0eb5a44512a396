/-
  hedglaw.SkipRows: the walk: it answers true. Conditions: the keys read as ints (RD); the table of math/bits holds what it is laid with (DTb).
  hedglaw.SkipRows: THE STATEMENT: for every input it answers true. Conditions: the table of math/bits holds what the program's text lays (tied on the card).
-/
import Derived.Test.YtfojphaemfbfnaaDoorG23
import Derived.Test.YtfojphaemfbfnaaDoorG18
import Derived.Test.YtfojphaemfbfnaaDoorG2
import Derived.Test.YtfojphaemfbfnaaDoorCards
import Derived.Test.YtfojphaemfbfnaaDoorTie
import Derived.SevenTiedAt

namespace Go.Proofs.YtfojphaemfbfnaaDoor
open Go.ChangeShapes Go.WideShapes Go.ChangeAt Go.RowKit
set_option linter.unusedVariables false
set_option linter.unusedSimpArgs false

set_option maxHeartbeats 400000 in
theorem eqStops_any (l m : List IP) (v u : Value) (w : World) (hl : RD w ePair v l) (hm : RD w ePair u m) :
    Calls Tryd.prog 17 #[v, u] w (Ret (.bool (decide (l = m))) w) := by
  obtain ⟨A, c, rfl, hc, hc'⟩ := hl.shape
  obtain ⟨A2, c2, rfl, hc2, hc2'⟩ := hm.shape
  have HL := hide hl
  have HM := hide hm
  clear hl hm
  by_cases hlen : l.length = m.length
  · have hb : ((l.length : Int) == (m.length : Int)) = true := by simp; omega
    have hn : ((l.length : Int) != (m.length : Int)) = false := by simp; omega
    have hlen' := hide hlen
    have g1 : l.length ≤ m.length := by omega
    have g2 : m.length ≤ l.length := by omega
    clear hlen
    go_enter Tryd.func17, Tryd.ntmps17
    go_wp2
    go_loopw [13] (SRel l m w) (fun i wr => l.length - (intOf i).toNat)
    case atStart => exact ⟨0, by omega, rfl, fun _ _ _ h => by omega, Below.refl _ _⟩
    case round =>
      obtain ⟨k, hk, rfl, hall, hbel⟩ := hrel
      have HA := hide hall
      clear hall
      by_cases hlt : k < l.length
      · obtain ⟨b, o, rfl, hb, c0, c1⟩ := (HL.out.below hbel).pair hlt
        obtain ⟨b2, o2, rfl, hb2, d0, d1⟩ := (HM.out.below hbel).pair (k := k) (by omega)
        have hlt2 : k < m.length := by omega
        by_cases he : l[k] = m[k]
        · have e1 : (l[k].1 == m[k].1) = true := by simp [he]
          have e2 : (l[k].2 == m[k].2) = true := by simp [he]
          have he' := hide he
          clear he
          go_wp2_with fail
          go_quiet (fail)
          go_wp2
          go_roundw
          case rel => exact SRel.on hlt hlt2 HA.out he'.out (by repeat' (first | exact Below.refl _ _ | (with_reducible assumption) | apply Below.drew | apply below_drewN | apply Below.alloc | apply Below.setCell)
                                                                all_goals (first | omega | (simp; omega) | (simp; done)))
          case measure => simp [intOf]; omega
        · have hf : decide (l = m) = false := by
            simp only [decide_eq_false_iff_not]
            rintro rfl
            exact he rfl
          have e12 : (l[k].1 == m[k].1 && l[k].2 == m[k].2) = false := by
            rw [Bool.eq_false_iff]
            intro h
            simp only [Bool.and_eq_true, beq_iff_eq] at h
            exact he (Prod.ext h.1 h.2)
          have hf' := hide hf
          clear he hf
          rcases hx : (l[k].1 == m[k].1) with _ | _ <;> rcases hy : (l[k].2 == m[k].2) with _ | _
          all_goals first | (rw [hx, hy] at e12; exact absurd e12 (by decide)) | skip
          all_goals clear e12
          all_goals
            go_wp2_with fail
            go_quiet (fail)
            go_wp2
            go_ret
            exact ⟨by rw [hf'.out]; rfl, (by repeat' (first | exact Below.refl _ _ | (with_reducible assumption) | apply Below.drew | apply below_drewN | apply Below.alloc | apply Below.setCell)
                                             all_goals (first | omega | (simp; omega) | (simp; done)))⟩
      · have ht : decide (l = m) = true := by
          simp only [decide_eq_true_eq]
          exact eq_of_take hlen'.out fun j a b => HA.out j a b (by omega)
        have ht' := hide ht
        clear ht
        go_wp2
        go_ret
        exact ⟨by rw [ht'.out]; rfl, hbel⟩
  · have hb : ((l.length : Int) == (m.length : Int)) = false := by simp; omega
    have hn : ((l.length : Int) != (m.length : Int)) = true := by simp; omega
    go_enter Tryd.func17, Tryd.ntmps17
    go_wp2
    go_ret
    exact ⟨by rw [decide_eq_false (fun h => hlen (by rw [h]))]; rfl, Below.refl _ _⟩

theorem eqStops_to (l m : List IP) (r : Bool) (v u : Value) (w : World) (hl : RD w ePair v l) (hm : RD w ePair u m) (h : decide (l = m) = r) :
    Calls Tryd.prog 17 #[v, u] w (Ret (.bool r) w) := by
  subst h
  exact eqStops_any l m v u w hl hm
set_option maxRecDepth 100000 in
set_option maxHeartbeats 8000000 in
theorem skipRows_walk (ks : List Int) (key : Int) (v : Value) (w : World) (hr : RD w eInt v ks) (hkey : -9223372036854775808 ≤ key ∧ key ≤ 9223372036854775807) (hdb : DTb w) : Calls Tryd.prog 3 #[v, .int .i64 key] w (Ret (.bool true) w) := by
  obtain ⟨A, c, rfl, hc, hm⟩ := hr.shape
  have HR := hide hr
  have HDB := hide hdb
  have HRO := hide (skRows_any ks _ w hr hdb)
  have HPA := hide (fun W (h : Kp w W) => skPath_any ks key _ W (hr.kp h) (hdb.kp h))
  have HHA := hide (fun W (h : Kp w W) => height_any key W (hdb.kp h))
  have HHB := hide (fun W => heightR_any key W)
  have HKR := hide (fun W (h : Kp w W) => keysRight_any ks _ W (hr.kp h))
  obtain ⟨ht, hht⟩ : ∃ ht, ht = hgtF key := ⟨_, rfl⟩
  rw [← hht] at HHA HHB
  have hh0 : (ht != ht) = false := by simp
  unfold rowsOf at HRO
  unfold pathOf at HPA
  clear hr hdb hkey hht
  by_cases he : krL ks = 0
  · rw [if_pos he] at HRO HPA
    rw [he] at HKR
    obtain ⟨hlen, _, _⟩ := krL_in he
    have HRW := hide (fun v W h => rowsOf_any ks v W h (by omega))
    have hrl := rowsN_len ks 12
    by_cases hk : 0 ≤ key ∧ key ≤ 1000000
    · rw [if_pos hk] at HPA
      have HST := hide (fun W (h : Kp w W) => stopsR_any ks key _ W (HR.out.kp h) he hk.1 hk.2)
      have HBT := hide ((btw_iff key 0 1000000).2 hk)
      obtain ⟨rr, hrr⟩ : ∃ rr, rr = rowsN ks 12 := ⟨_, rfl⟩
      rw [← hrr] at HRO HRW hrl
      obtain ⟨st, hst⟩ : ∃ st, st = (stAll ks key 12).1 := ⟨_, rfl⟩
      rw [← hst] at HPA HST
      have HRL := hide hrl
      clear hrr hst hrl hk he hlen
      go_enter Tryd.func3, Tryd.ntmps3
      go_wp2_with fail
      with_reducible refine HRO.out.mono ?_
      rintro e w1 ⟨v1, rfl, hr1, kk1⟩
      have HR1 := hide hr1
      clear hr1
      go_wp2_with fail
      with_reducible refine (HPA.out _ kk1).mono ?_
      rintro e w2 ⟨v2, rfl, hr2, hb2⟩
      have kk2 : Kp w1 w2 := Kp.of hb2
      have HR2 := hide hr2
      clear hr2 hb2
      go_wp2_with fail
      with_reducible refine (HHA.out _ (kk1.trans kk2)).mono ?_
      rintro e w3 ⟨rfl, rfl⟩
      go_wp2_with fail
      with_reducible refine (HHB.out _).mono ?_
      rintro e w3 ⟨rfl, rfl⟩
      go_wp2_with fail
      with_reducible refine (HKR.out _ (kk1.trans kk2)).mono ?_
      rintro e w5 ⟨rfl, hb5⟩
      have kk5 : Kp w2 w5 := Kp.of hb5
      clear hb5
      have d2 : ((0 : Int) != 0) = false := by decide
      go_wp2_with fail
      with_reducible refine (HRW.out _ _ (HR.out.kp (kk1.trans (kk2.trans kk5)))).mono ?_
      rintro e w6 ⟨v6, rfl, hr6, kk6⟩
      have HC := hide (sameRows_any rr rr v1 v6 w6 (HR1.out.kp (kk2.trans (kk5.trans kk6))) hr6 (by have := HRL.out; omega))
      rw [decide_eq_true rfl] at HC
      clear hr6
      go_wp2_with fail
      with_reducible refine HC.out.mono ?_
      rintro e w7 ⟨rfl, hb7⟩
      have kk7 : Kp w6 w7 := Kp.of hb7
      clear hb7
      go_wp2_with fail
      with_reducible refine (between_to _ _ _ true _ HBT.out).mono ?_
      rintro e w' ⟨rfl, rfl⟩
      go_wp2_with fail
      with_reducible refine (HST.out _ (kk1.trans (kk2.trans (kk5.trans (kk6.trans kk7))))).mono ?_
      rintro e w8 ⟨v8, rfl, hr8, hb8⟩
      have kk8 : Kp w7 w8 := Kp.of hb8
      have HE := hide (eqStops_any st st v2 v8 w8 (HR2.out.kp (kk5.trans (kk6.trans (kk7.trans kk8)))) hr8)
      rw [decide_eq_true rfl] at HE
      clear hr8 hb8
      go_wp2_with fail
      with_reducible refine HE.out.mono ?_
      rintro e w9 ⟨rfl, hb9⟩
      have kk9 : Kp w8 w9 := Kp.of hb9
      clear hb9
      go_wp2
      go_ret
      exact ⟨rfl, (kk1.trans (kk2.trans (kk5.trans (kk6.trans (kk7.trans (kk8.trans kk9)))))).bel⟩
    · rw [if_neg hk] at HPA
      have HBT := hide ((btw_f_iff key 0 1000000).2 hk)
      obtain ⟨rr, hrr⟩ : ∃ rr, rr = rowsN ks 12 := ⟨_, rfl⟩
      rw [← hrr] at HRO HRW hrl
      have HRL := hide hrl
      clear hrr hrl hk he hlen
      go_enter Tryd.func3, Tryd.ntmps3
      go_wp2_with fail
      with_reducible refine HRO.out.mono ?_
      rintro e w1 ⟨v1, rfl, hr1, kk1⟩
      have HR1 := hide hr1
      clear hr1
      go_wp2_with fail
      with_reducible refine (HPA.out _ kk1).mono ?_
      rintro e w2 ⟨v2, rfl, hr2, hb2⟩
      have kk2 : Kp w1 w2 := Kp.of hb2
      have HR2 := hide hr2
      clear hr2 hb2
      go_wp2_with fail
      with_reducible refine (HHA.out _ (kk1.trans kk2)).mono ?_
      rintro e w3 ⟨rfl, rfl⟩
      go_wp2_with fail
      with_reducible refine (HHB.out _).mono ?_
      rintro e w3 ⟨rfl, rfl⟩
      go_wp2_with fail
      with_reducible refine (HKR.out _ (kk1.trans kk2)).mono ?_
      rintro e w5 ⟨rfl, hb5⟩
      have kk5 : Kp w2 w5 := Kp.of hb5
      clear hb5
      obtain ⟨A2, c2, hv2, _, _⟩ := HR2.out.shape
      subst hv2
      go_wp2_with fail
      with_reducible refine (HRW.out _ _ (HR.out.kp (kk1.trans (kk2.trans kk5)))).mono ?_
      rintro e w6 ⟨v6, rfl, hr6, kk6⟩
      have HC := hide (sameRows_any rr rr v1 v6 w6 (HR1.out.kp (kk2.trans (kk5.trans kk6))) hr6 (by have := HRL.out; omega))
      rw [decide_eq_true rfl] at HC
      clear hr6
      go_wp2_with fail
      with_reducible refine HC.out.mono ?_
      rintro e w7 ⟨rfl, hb7⟩
      have kk7 : Kp w6 w7 := Kp.of hb7
      clear hb7
      go_wp2_with fail
      with_reducible refine (between_to _ _ _ false _ HBT.out).mono ?_
      rintro e w' ⟨rfl, rfl⟩
      go_wp2
      go_ret
      exact ⟨rfl, (kk1.trans (kk2.trans (kk5.trans (kk6.trans kk7)))).bel⟩
  · rw [if_neg he] at HRO HPA
    obtain ⟨er, her⟩ : ∃ er, er = krL ks := ⟨_, rfl⟩
    rw [← her] at HRO HPA HKR he
    have de : (er != 0) = true := by simpa using he
    clear her he
    go_enter Tryd.func3, Tryd.ntmps3
    go_wp2_with fail
    with_reducible refine HRO.out.mono ?_
    rintro e w1 ⟨v1, rfl, hr1, kk1⟩
    have HR1 := hide hr1
    clear hr1
    go_wp2_with fail
    with_reducible refine (HPA.out _ kk1).mono ?_
    rintro e w2 ⟨v2, rfl, hr2, hb2⟩
    have kk2 : Kp w1 w2 := Kp.of hb2
    have HR2 := hide hr2
    clear hr2 hb2
    go_wp2_with fail
    with_reducible refine (HHA.out _ (kk1.trans kk2)).mono ?_
    rintro e w3 ⟨rfl, rfl⟩
    go_wp2_with fail
    with_reducible refine (HHB.out _).mono ?_
    rintro e w3 ⟨rfl, rfl⟩
    go_wp2_with fail
    with_reducible refine (HKR.out _ (kk1.trans kk2)).mono ?_
    rintro e w5 ⟨rfl, hb5⟩
    have kk5 : Kp w2 w5 := Kp.of hb5
    clear hb5
    obtain ⟨A1, c1, hv1, _, _⟩ := HR1.out.shape
    subst hv1
    obtain ⟨A2, c2, hv2, _, _⟩ := HR2.out.shape
    subst hv2
    go_wp2
    go_ret
    exact ⟨by simp, (kk1.trans (kk2.trans kk5)).bel⟩
end Go.Proofs.YtfojphaemfbfnaaDoor
namespace Go.Proofs.YtfojphaemfbfnaaDoor
open Go.ChangeShapes Go.WideShapes Go.ChangeAt Go.RowKit Go.Deep
set_option linter.unusedVariables false
set_option linter.unusedSimpArgs false

set_option maxRecDepth 100000 in
theorem skipRows_lifted (os : Os) (started : os.Started) (H : Type) (enc : TypeId × Value → H) :
    ReturnsInHanded {} Tryd.checked os 3 .any (fun w args => (Rows.skipRowsSpec.pre enc Tryd.prog Tryd.f3 Rows.skipRowsRow.domain false w args ∧ laidMetH Tryd.prog ZLaid w) ∧ sizedMet enc Tryd.prog Tryd.f3 (OpenSpec.ofChange Rows.skipRowsSpec) false w args) (Rows.skipRowsSpec.post enc Tryd.prog Tryd.f3 false true false false) := by
  refine returnsInHanded_of_change_and (C := Tryd.checked) (X := fun w _ => laidMetH Tryd.prog ZLaid w) (fun _ _ _ hh h => h.of_heap hh) own started (by kernel_rfl) Tryd.func3
    (ChangeSpec.witness_at (enc := enc) (C := Tryd.checked) (os := os) (X := fun w _ => laidMetH Tryd.prog ZLaid w) false (laidWorldZ os) #[.slice none 0 0, .int .i64 0] 8 rfl (by kernel_rfl) (by kernel_rfl) (by kernel_rfl) (by kernel_rfl) (by kernel_rfl) (laidZ_met os _)) ?_
  intro W base args ds gs before hval0 hW hcnd _ hL _
  have hval : ∀ (j : Nat) t v, Tryd.f3.params[j]? = some t → args[j]? = some v → Value.okWide Tryd.prog W .any base t v := hval0
  have hW' := hW
  obtain ⟨p, q, hA0, hV, rfl, hfz, hnd⟩ := hW
  have hA : DataW.TrodAll enc Tryd.prog W 0 (fun _ => true) true Tryd.f3.params.toList args.toList ds p := hA0
  rw [Tryd.params3] at hA hval
  obtain ⟨v0, vs0, d0, ds0, p0, q0, hargs, rfl, rfl, h0, r0⟩ := trodAll_cons hA
  obtain ⟨v1, vs1, d1, ds1, p1, q1, rfl, rfl, rfl, h1, r1⟩ := trodAll_cons r0
  obtain ⟨rfl, rfl, rfl⟩ := trodAll_nil r1
  obtain rfl : args = #[v0, v1] := by cases args; simp_all
  obtain ⟨rfl, rfl⟩ := trodVars_none hV
  obtain ⟨a0, n0, c0, rfl⟩ := okWide_slice Tryd.underlying22 (hval 0 22 v0 rfl rfl)
  obtain ⟨n1, rfl⟩ := okWide_int Tryd.underlying3 (hval 1 3 v1 rfl rfl)
  have lt0 : ∀ x ∈ p0, x.block < W.heap.size := by obtain ⟨m, hm⟩ := h0; exact DataW.trod_lt m _ _ _ hm
  have lt1 : ∀ x ∈ p1, x.block < W.heap.size := by obtain ⟨m, hm⟩ := h1; exact DataW.trod_lt m _ _ _ hm
  obtain ⟨l0, w0⟩ := arg_ints h0
  have w1 : -9223372036854775808 ≤ n1 ∧ n1 ≤ 9223372036854775807 := by obtain ⟨m, hm⟩ := h1; exact wf_i64 Tryd.underlying3 hm
  clear hA0 hval0
  refine (skipRows_walk l0 n1 _ W w0 w1 (db_of_laid hL)).mono fun e W' ⟨he, bel⟩ => ?_
  subst he
  exact ⟨_, rfl, _, _, _, [], _, [], hW', trodAll_mk1 (shut_bool Tryd.underlying4 _), (trodAll_cons_mk (Below.trod laidOut (by kernel_rfl) (of_decide_eq_true (by kernel_rfl)) h0 bel lt0) (trodAll_cons_mk (Below.trod laidOut (by kernel_rfl) (of_decide_eq_true (by kernel_rfl)) h1 bel lt1) trodAll_mk0)), rfl, bel.frame _, fun h => by cases h⟩

set_option maxRecDepth 100000 in
set_option maxHeartbeats 8000000 in
theorem skipRows_closed : joinedFacts Tryd.checked.prog 3 Tryd.f3 Rows.skipRowsSpec Rows.skipRowsRow = true := by
  unfold joinedFacts
  repeat' (with_reducible refine and_true_of ?_ ?_)
  all_goals (as_aux_lemma => kernel_rfl)
theorem skipRows_over : Rows.skipRowsRow.holds Tryd.pinned (OpenSpec.ofChange Rows.skipRowsSpec) :=
  OpenClaim.holds_of_wide 3 Tryd.f3 rfl rfl rfl rfl rfl rfl rfl ⟨rfl, rfl, rfl, rfl, rfl⟩ rfl rfl rfl rfl rfl (by as_aux_lemma => kernel_rfl) Tryd.func3 skipRows_closed
    (of_decide_eq_true (by as_aux_lemma => kernel_rfl)) (by as_aux_lemma => unfold Func.isWrapper; first | (rw [if_pos (by decide +kernel)]; kernel_rfl) | (rw [if_neg (by decide +kernel)]; exact ⟨rfl, rfl⟩))
    (fun os started H enc _ => skipRows_lifted os started H enc)
set_option maxRecDepth 100000 in
theorem skipRows_proved : Rows.SkipRowsCardSaid :=
  Claim7.holds_tied_plain_at .later [] [.data] true _ false skipRows_over (fun _ h => by cases h) (by kernel_rfl) (fun _ h => by cases h) skipRows_row_tie rfl ⟨rfl, rfl⟩ (by kernel_rfl) rfl
    (fun f fn hf hfn => by
      obtain rfl : f = 3 := Option.some.inj ((show Tryd.prog.funcNamed "hedgewright/hedglaw.SkipRows" = some 3 by kernel_rfl).symm.trans hf) |>.symm
      obtain rfl : fn = Tryd.f3 := (Option.some.inj (Tryd.func3.symm.trans hfn)).symm
      exact ⟨by kernel_rfl, fun j t ht => by
        have h : (Tryd.f3.params.toList.all fun t => !Tryd.prog.wantsStandIn t) = true := by kernel_rfl
        have hm : t ∈ Tryd.f3.params.toList := by
          rw [Array.mem_toList_iff]
          exact Array.mem_of_getElem? ht
        have h2 : Tryd.prog.wantsStandIn t = false := by simpa using List.all_eq_true.1 h t hm
        exact h2⟩)
    (by kernel_rfl)
#print axioms skipRows_proved
end Go.Proofs.YtfojphaemfbfnaaDoor
