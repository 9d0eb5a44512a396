/-
  hedglaw.HandsSay: it answers true. Conditions: the lists read as they are named (RD, RDS).
  hedglaw.HandsSay: THE STATEMENT: for every input it answers true. Conditions: none.
-/
import Derived.Test.YtoihdnekkgpcoaaG16
import Derived.Test.YtoihdnekkgpcoaaG10
import Derived.Test.YtoihdnekkgpcoaaG1
import Derived.Test.YtoihdnekkgpcoaaG4

namespace Go.Proofs.Ytoihdnekkgpcoaa
open Go.ChangeShapes Go.WideShapes Go.ChangeAt Go.RowKit
set_option linter.unusedVariables false
set_option linter.unusedSimpArgs false

/-- What the document's answer is, at its slot. -/
def H5G (D : List (Nat × Nat × Dn)) (L : List Int) (d : Nat) (v : Value) (w : World) (_ : Nat) : Prop := d = 40 → ∃ vd vl, v = .agg #[vd, vl] ∧ RD w eDone vd D ∧ RD w eInt vl L
variable {D : List (Nat × Nat × Dn)} {L : List Int}
theorem H5G.none {d γ : Nat} {v : Value} {w : World} (h : d ≠ 40) : H5G D L d v w γ := fun e => absurd e h
theorem H5G.kp {d γ : Nat} {v : Value} {w w' : World} (h : H5G D L d v w γ) (k : Kp w w') : H5G D L d v w' γ := fun e => by
  obtain ⟨a, b, c, x, y⟩ := h e
  exact ⟨a, b, c, x.kp k, y.kp k⟩
set_option maxRecDepth 100000 in
set_option maxHeartbeats 4000000 in
theorem handsSay_walk (n0 : Int) (l : List Int) (P : List (List Dd)) (o : List Int) (vl vp vo : Value) (w : World) (hw : -9223372036854775808 ≤ n0 ∧ n0 ≤ 9223372036854775807) (hl : RD w eInt vl l) (hp : RDS w eDeed vp P) (ho : RD w eInt vo o) :
    Calls Try.prog 7 #[.int .i64 n0, vl, vp, vo] w (Ret (.bool true) w) := by
  have HHR := hide (fun W (k : Kp w W) => href_any n0 l P o vl vp vo W (hl.kp k) (hp.kp k) (ho.kp k))
  by_cases hr : rgF n0 l P o.length = 0
  · obtain ⟨ha, hn5, ok⟩ := rgF_ok hr
    obtain ⟨alg, rfl⟩ : ∃ a : Nat, n0 = (a : Int) := ⟨n0.toNat, by omega⟩
    have HRun := hide (hrun_any alg l P o vl vp vo w hl hp ho hr)
    have HHA := hide (fun W (k : Kp w W) => handled_any alg l P o vl vp vo W (hl.kp k) (hp.kp k) (ho.kp k) hr)
    rw [hr] at HHR
    obtain ⟨A1, c1, rfl, hc1, _⟩ := hl.shape
    obtain ⟨A2, c2, rfl, hc2, _⟩ := hp.shape
    obtain ⟨A3, c3, rfl, hc3, _⟩ := ho.shape
    clear hl hp ho hr ha ok hn5
    obtain ⟨n0, hn0⟩ : ∃ n : Int, n = (alg : Int) := ⟨_, rfl⟩
    rw [← hn0] at HHR HRun HHA ⊢
    clear hn0
    go_enter Try.func7, Try.ntmps7
    go_wp2_with fail
    refine HRun.out.mono ?_
    rintro e w1 ⟨s, vd, vt, rfl, hf, h1, h2, hk1⟩
    obtain ⟨D, hD⟩ : ∃ D, D = doneL s P.length := ⟨_, rfl⟩
    obtain ⟨Lf, hL⟩ : ∃ Lf, Lf = leftM s.m := ⟨_, rfl⟩
    rw [← hD] at h1
    rw [← hL] at h2
    obtain ⟨dA, dC, rfl, -⟩ := h1.shape
    obtain ⟨tA, tC, rfl, -⟩ := h2.shape
    have HK1 := hide hk1
    have HD := hide h1
    have HT := hide h2
    have HHD : Hid (∀ W, Kp w W → Calls Try.prog 14 #[.int .i64 n0, .slice A1 l.length c1, .slice A2 P.length c2, .slice A3 o.length c3] W (fun e w' => ∃ xd xl, e = .returned (.agg #[xd, xl]) ∧ RD w' eDone xd D ∧ RD w' eInt xl Lf ∧ Kp W w')) := hide (fun W k => by
      refine (HHA.out W k).mono ?_
      rintro e w' ⟨s2, xd, xl, rfl, hf2, g1, g2, hk⟩
      have e2 := fin_one _ _ _ _ _ hf2 hf
      rw [e2, ← hD] at g1
      rw [e2, ← hL] at g2
      exact ⟨xd, xl, rfl, g1, g2, hk⟩)
    clear hf h1 h2 hk1 HRun HHA hD hL
    go_upto_region 2 with fail
    have HB : Hid (BC (w1.alloc (.cells #[.slice dA D.length dC, .slice tA Lf.length tC] 29)) w1.heap.size 29 [.slice dA D.length dC, .slice tA Lf.length tC]) := hide (BC.new w1 _ [.slice dA D.length dC, .slice tA Lf.length tC])
    have HKA : Hid (Kp w1 (w1.alloc (.cells #[.slice dA D.length dC, .slice tA Lf.length tC] 29))) := hide (Kp.refl w1).alloc
    go_wp2_with fail
    refine (HHR.out _ (HK1.out.trans HKA.out)).mono ?_
    rintro e w2 ⟨rfl, hk2⟩
    obtain ⟨T0, hT0⟩ : ∃ T, T = w1.heap.size := ⟨_, rfl⟩
    rw [← hT0] at HB ⊢
    have HK2 := hide (HK1.out.trans (HKA.out.trans hk2))
    have HC0 : Hid (w2.cell? ⟨T0, 0, none⟩ = some (.slice dA D.length dC)) := hide ((HB.out.kp hk2).cell 0)
    have HC1 : Hid (w2.cell? ⟨T0, 1, none⟩ = some (.slice tA Lf.length tC)) := hide ((HB.out.kp hk2).cell 1)
    have HD2 : Hid (RD w2 eDone (.slice dA D.length dC) D) := hide (HD.out.kp (HKA.out.trans hk2))
    have HT2 : Hid (RD w2 eInt (.slice tA Lf.length tC) Lf) := hide (HT.out.kp (HKA.out.trans hk2))
    have HHD2 : Hid (∀ W, Kp w2 W → Calls Try.prog 14 #[.int .i64 n0, .slice A1 l.length c1, .slice A2 P.length c2, .slice A3 o.length c3] W (fun e w' => ∃ xd xl, e = .returned (.agg #[xd, xl]) ∧ RD w' eDone xd D ∧ RD w' eInt xl Lf ∧ Kp W w')) := hide (fun W k => HHD.out W (HK2.out.trans k))
    have HST : Hid (∀ W, Kp w2 W → ∀ xd xl, RD W eDone xd D → RD W eInt xl Lf → Calls Try.prog 13 #[.agg #[.slice dA D.length dC, .slice tA Lf.length tC], .agg #[xd, xl]] W (fun e w' => e = .returned (.bool true) ∧ Kp W w')) := hide (fun W k xd xl g1 g2 => sameTold_eq D Lf _ _ xd xl W (HD2.out.kp k) (HT2.out.kp k) g1 g2)
    clear hk2 hT0 HB HHD
    have HHD := HHD2
    go_upto_region 5 with fail
    refine wp_region_tabG (by kernel_rfl) [(35, .agg #[.slice dA D.length dC, .slice tA Lf.length tC]), (36, .int .i64 n0), (37, .slice A1 l.length c1), (38, .slice A2 P.length c2), (39, .slice A3 o.length c3), (41, .bool true), (42, .bool true), (43, .int .i64 0), (44, .bool true), (45, .bool true), (8, .bool true)] (H5G D Lf) (fun _ W (_ : Nat) => Kp w2 W) 0 (Kp.refl w2).drew (by kernel_rfl) (by kernel_rfl) ?_ ?_
    · refine ⟨?_, ?_, ?_, ?_, ?_, ?_, ?_, ?_, ?_, ?_, ?_, ?_, trivial⟩
      · intro hop L a w5 γ hs hk hl ha keep know spec
        have h9 := keep 9 (.pointer (some ⟨T0, 0, none⟩)) (by kernel_rfl) rfl
        have q0 := hk.cell HC0.out
        have q1 := hk.cell HC1.out
        exact wpOp_value hop (wanted_none rfl) (v := .agg #[.slice dA D.length dC, .slice tA Lf.length tC]) (by simp only [execOp, Act.eval, h9]; go_simp) ⟨_, γ, rfl, hk, (fun d hd => by injection hd with hd; subst hd; exact ⟨tab rfl, H5G.none (by decide)⟩), fun _ _ _ h => h⟩
      · intro hop L a w5 γ hs hk hl ha keep know spec
        have h0 := keep 0 (.int .i64 n0) (by kernel_rfl) rfl
        exact wpOp_value hop (wanted_none rfl) (v := .int .i64 n0) (by simp only [execOp, Act.eval, h0]; rfl) ⟨_, γ, rfl, hk, (fun d hd => by injection hd with hd; subst hd; exact ⟨tab rfl, H5G.none (by decide)⟩), fun _ _ _ h => h⟩
      · intro hop L a w5 γ hs hk hl ha keep know spec
        have h1 := keep 1 (.slice A1 l.length c1) (by kernel_rfl) rfl
        exact wpOp_value hop (wanted_none rfl) (v := .slice A1 l.length c1) (by simp only [execOp, Act.eval, h1]; rfl) ⟨_, γ, rfl, hk, (fun d hd => by injection hd with hd; subst hd; exact ⟨tab rfl, H5G.none (by decide)⟩), fun _ _ _ h => h⟩
      · intro hop L a w5 γ hs hk hl ha keep know spec
        have h2 := keep 2 (.slice A2 P.length c2) (by kernel_rfl) rfl
        exact wpOp_value hop (wanted_none rfl) (v := .slice A2 P.length c2) (by simp only [execOp, Act.eval, h2]; rfl) ⟨_, γ, rfl, hk, (fun d hd => by injection hd with hd; subst hd; exact ⟨tab rfl, H5G.none (by decide)⟩), fun _ _ _ h => h⟩
      · intro hop L a w5 γ hs hk hl ha keep know spec
        have h3 := keep 3 (.slice A3 o.length c3) (by kernel_rfl) rfl
        exact wpOp_value hop (wanted_none rfl) (v := .slice A3 o.length c3) (by simp only [execOp, Act.eval, h3]; rfl) ⟨_, γ, rfl, hk, (fun d hd => by injection hd with hd; subst hd; exact ⟨tab rfl, H5G.none (by decide)⟩), fun _ _ _ h => h⟩
      · intro hop L a w5 γ hs hk hl ha keep know spec
        have h36 := know 36 (.int .i64 n0) (by kernel_rfl) rfl
        have h37 := know 37 (.slice A1 l.length c1) (by kernel_rfl) rfl
        have h38 := know 38 (.slice A2 P.length c2) (by kernel_rfl) rfl
        have h39 := know 39 (.slice A3 o.length c3) (by kernel_rfl) rfl
        exact wpOp_call hop (wanted_none rfl) (by simp only [execOp, resolve, Act.eval, List.map_toArray, List.map_cons, List.map_nil, h36, h37, h38, h39]; rfl) (HHD.out w5 hk) fun e w6 hR => by
          obtain ⟨xd, xl, rfl, g1, g2, hk6⟩ := hR
          exact ⟨_, rfl, _, γ, rfl, hk.trans hk6, (fun d hd => by injection hd with hd; subst hd; exact ⟨tab_none rfl, fun _ => ⟨xd, xl, rfl, g1, g2⟩⟩), fun _ _ _ h => h.kp hk6⟩
      · intro hop L a w5 γ hs hk hl ha keep know spec
        have h35 := know 35 (.agg #[.slice dA D.length dC, .slice tA Lf.length tC]) (by kernel_rfl) rfl
        obtain ⟨xd, xl, e40, g1, g2⟩ := (spec 40 (by kernel_rfl)) rfl
        exact wpOp_call hop (wanted_none rfl) (by simp only [execOp, resolve, Act.eval, List.map_toArray, List.map_cons, List.map_nil, h35, e40]; rfl) (HST.out w5 hk xd xl g1 g2) fun e w6 hR => by
          obtain ⟨rfl, hk6⟩ := hR
          exact ⟨_, rfl, _, γ, rfl, hk.trans hk6, (fun d hd => by injection hd with hd; subst hd; exact ⟨tab rfl, H5G.none (by decide)⟩), fun _ _ _ h => h.kp hk6⟩
      · intro hop L a w5 γ hs hk hl ha keep know spec
        have h41 := know 41 (.bool true) (by kernel_rfl) rfl
        exact wpOp_value hop (wanted_none rfl) (v := .bool true) (by simp only [execOp, Act.eval, h41]; rfl) ⟨_, γ, rfl, hk, (fun d hd => by injection hd with hd; subst hd; exact ⟨tab rfl, H5G.none (by decide)⟩), fun _ _ _ h => h⟩
      · intro hop L a w5 γ hs hk hl ha keep know spec
        have h10 := keep 10 (.int .i64 0) (by kernel_rfl) rfl
        have hg := know 42 (.bool true) (by kernel_rfl) rfl
        exact wpOp_value hop ((wanted_bool rfl rfl hg).trans rfl) (v := .int .i64 0) (by simp only [execOp, Act.eval, h10]; rfl) ⟨_, γ, rfl, hk, (fun d hd => by injection hd with hd; subst hd; exact ⟨tab rfl, H5G.none (by decide)⟩), fun _ _ _ h => h⟩
      · intro hop L a w5 γ hs hk hl ha keep know spec
        have h43 := know 43 (.int .i64 0) (by kernel_rfl) rfl
        have hg := know 42 (.bool true) (by kernel_rfl) rfl
        exact wpOp_value hop ((wanted_bool rfl rfl hg).trans rfl) (v := .bool true) (by simp only [execOp, Act.eval, h43]; go_simp) ⟨_, γ, rfl, hk, (fun d hd => by injection hd with hd; subst hd; exact ⟨tab rfl, H5G.none (by decide)⟩), fun _ _ _ h => h⟩
      · intro hop L a w5 γ hs hk hl ha keep know spec
        have h42 := know 42 (.bool true) (by kernel_rfl) rfl
        have h44 := know 44 (.bool true) (by kernel_rfl) rfl
        exact wpOp_value hop (wanted_none rfl) (v := .bool true) (by simp only [execOp, Act.eval, h42, h44]; rfl) ⟨_, γ, rfl, hk, (fun d hd => by injection hd with hd; subst hd; exact ⟨tab rfl, H5G.none (by decide)⟩), fun _ _ _ h => h⟩
      · intro hop L a w5 γ hs hk hl ha keep know spec
        have h45 := know 45 (.bool true) (by kernel_rfl) rfl
        exact wpOp_value hop (wanted_none rfl) (v := .bool true) (by simp only [execOp, Act.eval, h45]; rfl) ⟨_, γ, rfl, hk, (fun d hd => by injection hd with hd; subst hd; exact ⟨tab rfl, H5G.none (by decide)⟩), fun _ _ _ h => h⟩
    · intro a' w9 γ' e1' e2' hk9' keep know spec
      obtain ⟨tm, df⟩ := a'
      obtain ⟨f9, hfd, hff⟩ := frame_putsE (D := [35, 36, 37, 38, 39, 40, 41, 42, 43, 44, 45, 8]) e2' keep
      have e8 := know 8 (.bool true) (by kernel_rfl) rfl
      rw [hfd 8] at e8
      have e3' : df = [] := e1'
      clear keep know spec e1' e2' hfd
      simp only [List.foldl_cons, List.foldl_nil, List.setIfInBounds_toArray, List.set_cons_zero, List.set_cons_succ] at hff
      rw [e8] at hff
      subst e3'
      rw [hff]
      clear hff e8
      have HK9 := hide (HK2.out.trans hk9')
      clear hk9'
      go_wp2
      go_ret
      exact ⟨rfl, HK9.out.bel⟩
  · have HRun := hide (hrun_bad n0 l P o vl vp vo w hl hp ho hr)
    obtain ⟨R, hR⟩ : ∃ R, R = rgF n0 l P o.length := ⟨_, rfl⟩
    rw [← hR] at HRun HHR hr
    have d1 : (R != 0) = true := by simpa using hr
    have d2 : (R == R) = true := beq_self_eq_true _
    obtain ⟨A1, c1, rfl, hc1, _⟩ := hl.shape
    obtain ⟨A2, c2, rfl, hc2, _⟩ := hp.shape
    obtain ⟨A3, c3, rfl, hc3, _⟩ := ho.shape
    have HST := hide (fun W => sameTold_eq [] [] (.slice none 0 0) (.slice none 0 0) (.slice none 0 0) (.slice none 0 0) W RD.nil RD.nil RD.nil RD.nil)
    clear hl hp ho hr hR
    go_enter Try.func7, Try.ntmps7
    go_wp2_with fail
    refine HRun.out.mono ?_
    rintro e w1 ⟨rfl, hk1⟩
    have HK1 := hide hk1
    have HKA : Hid (Kp w1 (w1.alloc (.cells #[.slice none 0 0, .slice none 0 0] 29))) := hide (Kp.refl w1).alloc
    have hq : BC (w1.alloc (.cells #[.slice none 0 0, .slice none 0 0] 29)) w1.heap.size 29 [.slice none 0 0, .slice none 0 0] := BC.new _ _ _
    have HQ := hide hq
    clear hk1 HRun hq
    go_wp2_with fail
    refine (HHR.out _ (HK1.out.trans HKA.out)).mono ?_
    rintro e w2 ⟨rfl, hk2⟩
    have q0 : w2.cell? ⟨w1.heap.size, 0, none⟩ = some (.slice none 0 0) := (HQ.out.kp hk2).cell 0
    have q1 : w2.cell? ⟨w1.heap.size, 1, none⟩ = some (.slice none 0 0) := (HQ.out.kp hk2).cell 1
    have HK2 := hide (HK1.out.trans (HKA.out.trans hk2))
    clear hk2 HQ
    go_wp2_with fail
    refine (HST.out _).mono ?_
    rintro e w3 ⟨rfl, hk3⟩
    have HK3 := hide (HK2.out.trans hk3)
    clear hk3
    go_wp2
    go_ret
    exact ⟨rfl, HK3.out.bel⟩
end Go.Proofs.Ytoihdnekkgpcoaa
namespace Go.Proofs.Ytoihdnekkgpcoaa
open Go.ChangeShapes Go.WideShapes Go.ChangeAt Go.RowKit Go.Deep
set_option linter.unusedVariables false
set_option linter.unusedSimpArgs false

set_option maxRecDepth 100000 in
theorem handsSay_lifted (os : Os) (started : os.Started) (H : Type) (enc : TypeId × Value → H) :
    ReturnsInHanded {} Try.checked os 7 .any (Rows.handsSaySpec.pre6 enc Try.prog Try.f7 Rows.handsSayRow.domain false) (Rows.handsSaySpec.post enc Try.prog Try.f7 false true false false) := by
  refine returnsInHanded_of_change (C := Try.checked) own started (by kernel_rfl) Try.func7
    (ChangeSpec.witness6 (enc := enc) (C := Try.checked) false ⟨#[], #[.int .i64 0, .slice none 0 0, .slice none 0 0, .slice none 0 0], []⟩ 8 (by kernel_rfl) (by kernel_rfl) (by kernel_rfl) (by kernel_rfl)) ?_
  intro W base args ds gs before hval0 hW hcnd _
  have hval : ∀ (j : Nat) t v, Try.f7.params[j]? = some t → args[j]? = some v → Value.okWide Try.prog W .any base t v := hval0
  have hW' := hW
  obtain ⟨p, q, hA0, hV, rfl, hfz, hnd⟩ := hW
  have hA : DataW.TrodAll enc Try.prog W 0 (fun _ => true) true Try.f7.params.toList args.toList ds p := hA0
  rw [Try.params7] at hA hval
  obtain ⟨v0, vs0, d0, ds0, p0, q0, hargs, rfl, rfl, h0, r0⟩ := trodAll_cons hA
  obtain ⟨v1, vs1, d1, ds1, p1, q1, rfl, rfl, rfl, h1, r1⟩ := trodAll_cons r0
  obtain ⟨v2, vs2, d2, ds2, p2, q2, rfl, rfl, rfl, h2, r2⟩ := trodAll_cons r1
  obtain ⟨v3, vs3, d3, ds3, p3, q3, rfl, rfl, rfl, h3, r3⟩ := trodAll_cons r2
  obtain ⟨rfl, rfl, rfl⟩ := trodAll_nil r3
  obtain rfl : args = #[v0, v1, v2, v3] := by cases args; simp_all
  obtain ⟨rfl, rfl⟩ := trodVars_none hV
  obtain ⟨n0, rfl⟩ := okWide_int Try.underlying3 (hval 0 3 v0 rfl rfl)
  obtain ⟨a1, n1, c1, rfl⟩ := okWide_slice Try.underlying27 (hval 1 27 v1 rfl rfl)
  obtain ⟨a2, n2, c2, rfl⟩ := okWide_slice Try.underlying25 (hval 2 25 v2 rfl rfl)
  obtain ⟨a3, n3, c3, rfl⟩ := okWide_slice Try.underlying27 (hval 3 27 v3 rfl rfl)
  have lt0 : ∀ x ∈ p0, x.block < W.heap.size := by obtain ⟨m, hm⟩ := h0; exact DataW.trod_lt m _ _ _ hm
  have lt1 : ∀ x ∈ p1, x.block < W.heap.size := by obtain ⟨m, hm⟩ := h1; exact DataW.trod_lt m _ _ _ hm
  have lt2 : ∀ x ∈ p2, x.block < W.heap.size := by obtain ⟨m, hm⟩ := h2; exact DataW.trod_lt m _ _ _ hm
  have lt3 : ∀ x ∈ p3, x.block < W.heap.size := by obtain ⟨m, hm⟩ := h3; exact DataW.trod_lt m _ _ _ hm
  have w0 : -9223372036854775808 ≤ n0 ∧ n0 ≤ 9223372036854775807 := by obtain ⟨m, hm⟩ := h0; exact wf_i64 Try.underlying3 hm
  obtain ⟨l1, w1⟩ := arg_ints h1
  obtain ⟨l2, w2⟩ := arg_deeds h2
  obtain ⟨l3, w3⟩ := arg_ints h3
  clear hA0 hval0
  refine (handsSay_walk n0 l1 l2 l3 _ _ _ W w0 w1 w2 w3).mono fun e W' ⟨he, bel⟩ => ?_
  subst he
  exact ⟨_, rfl, _, _, _, [], _, [], hW', trodAll_mk1 (shut_bool Try.underlying4 _), (trodAll_cons_mk (Below.trod laidOut (by kernel_rfl) (of_decide_eq_true (by kernel_rfl)) h0 bel lt0) (trodAll_cons_mk (Below.trod laidOut (by kernel_rfl) (of_decide_eq_true (by kernel_rfl)) h1 bel lt1) (trodAll_cons_mk (Below.trod laidOut (by kernel_rfl) (of_decide_eq_true (by kernel_rfl)) h2 bel lt2) (trodAll_cons_mk (Below.trod laidOut (by kernel_rfl) (of_decide_eq_true (by kernel_rfl)) h3 bel lt3) trodAll_mk0)))), rfl, bel.frame _, fun h => by cases h⟩

set_option maxRecDepth 100000 in
set_option maxHeartbeats 8000000 in
theorem handsSay_closed : joinedFacts Try.checked.prog 7 Try.f7 Rows.handsSaySpec Rows.handsSayRow = true := by
  unfold joinedFacts
  repeat' (with_reducible refine and_true_of ?_ ?_)
  all_goals (as_aux_lemma => kernel_rfl)
theorem handsSay_over : Rows.handsSayRow.holds Try.pinned (OpenSpec.ofChange Rows.handsSaySpec) :=
  OpenClaim.holds_of_wide 7 Try.f7 rfl rfl rfl rfl rfl rfl rfl ⟨rfl, rfl, rfl, rfl, rfl⟩ rfl rfl rfl rfl rfl (by as_aux_lemma => kernel_rfl) Try.func7 handsSay_closed
    (of_decide_eq_true (by as_aux_lemma => kernel_rfl)) (by as_aux_lemma => unfold Func.isWrapper; first | (rw [if_pos (by decide +kernel)]; kernel_rfl) | (rw [if_neg (by decide +kernel)]; exact ⟨rfl, rfl⟩))
    (fun os started H enc _ => handsSay_lifted os started H enc)
theorem handsSay_proved : Rows.HandsSaySaid := handsSay_over
#print axioms handsSay_proved
end Go.Proofs.Ytoihdnekkgpcoaa
