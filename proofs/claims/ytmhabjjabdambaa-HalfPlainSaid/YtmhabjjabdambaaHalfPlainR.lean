/-
  hedgkeep.HalfPlain: the walk: it answers true. Conditions: the list reads as ops (RD).
  hedgkeep.HalfPlain: THE STATEMENT: for every input it answers true. Conditions: none.
-/
import Derived.Test.YtmhabjjabdambaaG15
import Derived.Test.YtmhabjjabdambaaG16
import Derived.Test.YtmhabjjabdambaaG2

namespace Go.Proofs.Ytmhabjjabdambaa
open Go.ChangeShapes Go.WideShapes Go.ChangeAt Go.RowKit
set_option linter.unusedVariables false
set_option linter.unusedSimpArgs false

def keepO (own : List O3) (o : O3) : List O3 := if 1 ≤ o.1 ∧ o.1 ≤ 5 ∧ 0 ≤ o.2.1 ∧ o.2.1 ≤ 65535 ∧ own.length < 200 then own ++ [(o.1, o.2.1, 0)] else own
def ownOf (ops : List O3) : List O3 := ops.foldl keepO []
theorem ownOf_take (ops : List O3) (k : Nat) (h : k < ops.length) : ownOf (ops.take (k + 1)) = keepO (ownOf (ops.take k)) ops[k] := by
  rw [List.take_succ_eq_append_getElem h, ownOf, List.foldl_append]; rfl
theorem keepO_may {own : List O3} {o : O3} (h : own.length ≤ 200 ∧ ∀ x ∈ own, MayO x) : (keepO own o).length ≤ 200 ∧ ∀ x ∈ keepO own o, MayO x := by
  unfold keepO
  split
  · rename_i h1
    refine ⟨by simp; omega, fun x hx => ?_⟩
    rw [List.mem_append, List.mem_singleton] at hx
    rcases hx with hx | rfl
    · exact h.2 x hx
    · exact ⟨h1.1, h1.2.1, h1.2.2.1, h1.2.2.2.1, rfl⟩
  · exact h
theorem ownOf_may (ops : List O3) : (ownOf ops).length ≤ 200 ∧ ∀ x ∈ ownOf ops, MayO x := by
  have : ∀ (l : List O3) (own : List O3), (own.length ≤ 200 ∧ ∀ x ∈ own, MayO x) → ((l.foldl keepO own).length ≤ 200 ∧ ∀ x ∈ l.foldl keepO own, MayO x) := by
    intro l
    induction l with
    | nil => exact fun own h => h
    | cons o l ih => exact fun own h => ih _ (keepO_may h)
  exact this ops [] ⟨by simp, fun x hx => by cases hx⟩
def HpRel (ops : List O3) (w : World) (ov iv : Value) (wr : World) : Prop :=
  ∃ (k : Nat), k ≤ ops.length ∧ iv = .int .i64 (k : Int) ∧ OW wr w.heap.size 43 eOp ov (ownOf (ops.take k)) ∧ Kp w wr
set_option maxRecDepth 100000 in
set_option maxHeartbeats 8000000 in
theorem halfPlain_walk (ops : List O3) (v : Value) (w : World) (hr : RD w eOp v ops) : Calls Try.prog 7 #[v] w (Ret (.bool true) w) := by
  obtain ⟨A, c, rfl, hc, hm⟩ := hr.shape
  have HRD0 := hide hr
  clear hr
  go_enter Try.func7, Try.ntmps7
  go_wp2
  go_loopw [3, 14] (HpRel ops w) (fun _ i _ => ops.length - (intOf i).toNat)
  case atStart => exact ⟨0, by omega, rfl, OW.nil, Kp.refl _⟩
  case round =>
    obtain ⟨k, hk, rfl, ho, hkp⟩ := hrel
    have HMY := hide (ownOf_may (ops.take k))
    obtain ⟨A6, c6, hv6, hc6, hm6⟩ := ho.rd.shape
    subst hv6
    have HO := hide ho
    have HKP := hide hkp
    by_cases hlt : k < ops.length
    · obtain ⟨b, o, rfl, _, x0, x1, x2⟩ := (HRD0.out.kp hkp).op hlt
      have HST := hide (ownOf_take ops k hlt)
      obtain ⟨S, hS⟩ : ∃ S, S = ownOf (ops.take k) := ⟨_, rfl⟩
      rw [← hS] at HO HST HMY hc6
      obtain ⟨kd, hkd⟩ : ∃ y, y = ops[k].1 := ⟨_, rfl⟩
      obtain ⟨ky, hky⟩ : ∃ y, y = ops[k].2.1 := ⟨_, rfl⟩
      rw [← hkd] at x0
      rw [← hky] at x1
      rw [← hS]
      rw [keepO, ← hkd, ← hky] at HST
      clear hS hkd hky ho hkp
      by_cases k1 : 1 ≤ kd
      · have t1 : decide (1 ≤ kd) = true := decide_eq_true k1
        by_cases k2 : kd ≤ 5
        · have t2 : decide (kd ≤ 5) = true := decide_eq_true k2
          by_cases k3 : 0 ≤ ky
          · have t3 : decide (0 ≤ ky) = true := decide_eq_true k3
            by_cases k4 : ky ≤ 65535
            · have t4 : decide (ky ≤ 65535) = true := decide_eq_true k4
              by_cases k5 : S.length < 200
              · have t5 : decide ((S.length : Int) < 200) = true := by simp; omega
                have HS2 : Hid (ownOf (ops.take (k + 1)) = S ++ [((kd, ky, 0) : O3)]) := hide (by rw [HST.out, if_pos ⟨k1, k2, k3, k4, k5⟩])
                have HM1 : Hid ((S.length + [((kd, ky, 0) : O3)].length) * 24 ≤ 140737488355328) := hide (by simp; omega)
                have HM2 : Hid (S.length + [((kd, ky, 0) : O3)].length ≤ maxLen) := hide (by simp [maxLen]; omega)
                clear k1 k2 k3 k4 k5 HST
                go_wp2_with (at_builtin; (with_reducible refine list_app (B := w.heap.size) (l := S) (m := [((kd, ky, 0) : O3)]) row_op (.slice A6 S.length c6) ?_ (.tmp 41) (.tmp 47) ?_ ?_ ?_ ?_ HM1.out HM2.out ?_ ?_); (with_reducible rfl); (with_reducible rfl); rfl; (exact (HO.out.alloc _).alloc _); (show RD _ _ (.slice (some ⟨_, 0, none⟩) 1 1) _; (focus ((repeat (first | (with_reducible assumption) | exact RD.new1 _ rfl | (refine RD.new1e _ ?_ rfl; simp; done) | (with_reducible apply RD.alloc) | (with_reducible apply RD.drew) | (with_reducible apply RD.drewN) | ((with_reducible apply RD.belowR); (with_reducible assumption)))); done))); (have := HKP.out.size; simp; omega); intro v3 w3 ho3 hg3 hat3)
                go_roundw
                case rel => exact ⟨k + 1, by omega, by go_num, by rw [HS2.out]; exact ho3, Kp.app hg3 HKP.out.alloc.alloc HO.out.hi⟩
                case measure => simp [intOf] <;> omega
              · have t5 : decide ((S.length : Int) < 200) = false := by simp; omega
                have HS2 : Hid (ownOf (ops.take (k + 1)) = S) := hide (by rw [HST.out, if_neg (fun h => k5 h.2.2.2.2)])
                clear k1 k2 k3 k4 k5 HST
                go_wp2
                go_roundw
                case rel => exact ⟨k + 1, by omega, by go_num, by rw [HS2.out]; exact HO.out.alloc _, HKP.out.alloc⟩
                case measure => simp [intOf] <;> omega
            · have t4 : decide (ky ≤ 65535) = false := decide_eq_false k4
              have HS2 : Hid (ownOf (ops.take (k + 1)) = S) := hide (by rw [HST.out, if_neg (fun h => k4 h.2.2.2.1)])
              clear k1 k2 k3 k4 HST
              go_wp2
              go_roundw
              case rel => exact ⟨k + 1, by omega, by go_num, by rw [HS2.out]; exact HO.out.alloc _, HKP.out.alloc⟩
              case measure => simp [intOf] <;> omega
          · have t3 : decide (0 ≤ ky) = false := decide_eq_false k3
            have HS2 : Hid (ownOf (ops.take (k + 1)) = S) := hide (by rw [HST.out, if_neg (fun h => k3 h.2.2.1)])
            clear k1 k2 k3 HST
            go_wp2
            go_roundw
            case rel => exact ⟨k + 1, by omega, by go_num, by rw [HS2.out]; exact HO.out.alloc _, HKP.out.alloc⟩
            case measure => simp [intOf] <;> omega
        · have t2 : decide (kd ≤ 5) = false := decide_eq_false k2
          have HS2 : Hid (ownOf (ops.take (k + 1)) = S) := hide (by rw [HST.out, if_neg (fun h => k2 h.2.1)])
          clear k1 k2 HST
          go_wp2
          go_roundw
          case rel => exact ⟨k + 1, by omega, by go_num, by rw [HS2.out]; exact HO.out.alloc _, HKP.out.alloc⟩
          case measure => simp [intOf] <;> omega
      · have t1 : decide (1 ≤ kd) = false := decide_eq_false k1
        have HS2 : Hid (ownOf (ops.take (k + 1)) = S) := hide (by rw [HST.out, if_neg (fun h => k1 h.1)])
        clear k1 HST
        go_wp2
        go_roundw
        case rel => exact ⟨k + 1, by omega, by go_num, by rw [HS2.out]; exact HO.out.alloc _, HKP.out.alloc⟩
        case measure => simp [intOf] <;> omega
    · have hkl : ops.take k = ops := List.take_of_length_le (by omega)
      rw [hkl] at HO HMY hc6
      rw [hkl]
      obtain ⟨S, hS⟩ : ∃ S, S = ownOf ops := ⟨_, rfl⟩
      rw [← hS] at HO HMY hc6 ⊢
      have hlen := HMY.out.1
      have hpl := half_plain S HMY.out.1 HMY.out.2
      have HPR := hide (fun W v h => run_any S v W h)
      have HHR := hide (fun W v h => hRun_any S v W h)
      have e1 : runOf S = ((runL S).1, (runL S).2, 0) := by rw [runOf, if_neg (by omega)]
      have e2 : hRun S = ((runL S).1.map Prod.fst, (runL S).2, 0) := by rw [hRun, if_neg (by omega), hpl]
      rw [e1] at HPR
      rw [e2] at HHR
      have hm2 := runL_len200 S
      obtain ⟨⟨m, asw⟩, hRL⟩ : ∃ R, R = runL S := ⟨_, rfl⟩
      rw [← hRL] at HPR HHR hm2
      have HML := hide hm2
      have hok : okL [0, 0] = true := rfl
      clear hS hpl e1 e2 hRL ho hkp hm2 hkl
      go_wp2_with fail
      with_reducible refine (HPR.out _ _ HO.out.rd).mono ?_
      rintro e w1 ⟨v1, u1, rfl, hr1, hu1, hb1⟩
      have kk1 := Kp.of hb1
      have HR1 := hide hr1
      have HU1 := hide hu1
      clear hr1 hu1 hb1
      go_wp2_with fail
      with_reducible refine (HHR.out _ _ (HO.out.rd.kp kk1)).mono ?_
      rintro e w2 ⟨v2, u2, rfl, ho2, hu2, kk2⟩
      have HR2 := hide ho2.rd
      have HU2 := hide hu2
      clear ho2 hu2
      go_wp2_with fail
      with_reducible refine (halfLives_any _).mono ?_
      rintro e w3 ⟨rfl, hb3⟩
      have kk3 := Kp.of hb3
      clear hb3
      go_wp2_with fail
      refine (ok_any [0, 0] _ _ (RD.block (l := [0, 0]) (heap_alloc_new w3 _) rfl (by simp [maxLen]))).mono ?_
      rintro e w4 ⟨rfl, hw4⟩
      have kk4 : Kp w3 w4 := by rw [← hw4]; exact (Kp.refl w3).alloc
      clear hw4
      go_wp2_with fail
      with_reducible refine (eqAns_same asw _ _ _ (HU1.out.kp (kk2.trans (kk3.trans kk4))) (HU2.out.kp (kk3.trans kk4))).mono ?_
      rintro e w5 ⟨rfl, hb5⟩
      have kk5 := Kp.of hb5
      clear hb5
      go_wp2_with fail
      with_reducible refine (mapKeys_any m _ _ (HR1.out.kp (kk2.trans (kk3.trans (kk4.trans kk5)))) (by have := HML.out; omega)).mono ?_
      rintro e w6 ⟨v6, rfl, ho6, hb6⟩
      have kk6 := Kp.of hb6
      have HR6 := hide ho6.rd
      clear hb6 ho6
      go_wp2_with fail
      with_reducible refine (sameInts_to _ _ true _ _ _ (HR2.out.kp (kk3.trans (kk4.trans (kk5.trans kk6)))) HR6.out (by simp)).mono ?_
      rintro e w7 ⟨rfl, hb7⟩
      have kk7 := Kp.of hb7
      clear hb7
      go_wp2
      go_ret
      exact ⟨rfl, (HKP.out.trans (kk1.trans (kk2.trans (kk3.trans (kk4.trans (kk5.trans (kk6.trans kk7))))))).bel⟩
end Go.Proofs.Ytmhabjjabdambaa
namespace Go.Proofs.Ytmhabjjabdambaa
open Go.ChangeShapes Go.WideShapes Go.ChangeAt Go.RowKit Go.Deep
set_option linter.unusedVariables false
set_option linter.unusedSimpArgs false

set_option maxRecDepth 100000 in
theorem halfPlain_lifted (os : Os) (started : os.Started) (H : Type) (enc : TypeId × Value → H) :
    ReturnsInHanded {} Try.checked os 7 .any (Rows.halfPlainSpec.pre6 enc Try.prog Try.f7 Rows.halfPlainRow.domain false) (Rows.halfPlainSpec.post enc Try.prog Try.f7 false true false false) := by
  refine returnsInHanded_of_change (C := Try.checked) own started (by kernel_rfl) Try.func7
    (ChangeSpec.witness6 (enc := enc) (C := Try.checked) false ⟨#[], #[.slice none 0 0], []⟩ 8 (by kernel_rfl) (by kernel_rfl) (by kernel_rfl) (by kernel_rfl)) ?_
  intro W base args ds gs before hval0 hW hcnd _
  have hval : ∀ (j : Nat) t v, Try.f7.params[j]? = some t → args[j]? = some v → Value.okWide Try.prog W .any base t v := hval0
  have hW' := hW
  obtain ⟨p, q, hA0, hV, rfl, hfz, hnd⟩ := hW
  have hA : DataW.TrodAll enc Try.prog W 0 (fun _ => true) true Try.f7.params.toList args.toList ds p := hA0
  rw [Try.params7] at hA hval
  obtain ⟨v0, vs0, d0, ds0, p0, q0, hargs, rfl, rfl, h0, r0⟩ := trodAll_cons hA
  obtain ⟨rfl, rfl, rfl⟩ := trodAll_nil r0
  obtain rfl : args = #[v0] := by cases args; simp_all
  obtain ⟨rfl, rfl⟩ := trodVars_none hV
  obtain ⟨a0, n0, c0, rfl⟩ := okWide_slice Try.underlying29 (hval 0 29 v0 rfl rfl)
  have lt0 : ∀ x ∈ p0, x.block < W.heap.size := by obtain ⟨m, hm⟩ := h0; exact DataW.trod_lt m _ _ _ hm
  obtain ⟨l0, w0⟩ := arg_ops h0
  clear hA0 hval0
  refine (halfPlain_walk l0 _ W w0).mono fun e W' ⟨he, bel⟩ => ?_
  subst he
  exact ⟨_, rfl, _, _, _, [], _, [], hW', trodAll_mk1 (shut_bool Try.underlying4 _), (trodAll_cons_mk (Below.trod laidOut (by kernel_rfl) (of_decide_eq_true (by kernel_rfl)) h0 bel lt0) trodAll_mk0), rfl, bel.frame _, fun h => by cases h⟩

set_option maxRecDepth 100000 in
set_option maxHeartbeats 8000000 in
theorem halfPlain_closed : joinedFacts Try.checked.prog 7 Try.f7 Rows.halfPlainSpec Rows.halfPlainRow = true := by
  unfold joinedFacts
  repeat' (with_reducible refine and_true_of ?_ ?_)
  all_goals (as_aux_lemma => kernel_rfl)
theorem halfPlain_over : Rows.halfPlainRow.holds Try.pinned (OpenSpec.ofChange Rows.halfPlainSpec) :=
  OpenClaim.holds_of_wide 7 Try.f7 rfl rfl rfl rfl rfl rfl rfl ⟨rfl, rfl, rfl, rfl, rfl⟩ rfl rfl rfl rfl rfl (by as_aux_lemma => kernel_rfl) Try.func7 halfPlain_closed
    (of_decide_eq_true (by as_aux_lemma => kernel_rfl)) (by as_aux_lemma => unfold Func.isWrapper; first | (rw [if_pos (by decide +kernel)]; kernel_rfl) | (rw [if_neg (by decide +kernel)]; exact ⟨rfl, rfl⟩))
    (fun os started H enc _ => halfPlain_lifted os started H enc)
theorem halfPlain_proved : Rows.HalfPlainSaid := halfPlain_over
#print axioms halfPlain_proved
end Go.Proofs.Ytmhabjjabdambaa
