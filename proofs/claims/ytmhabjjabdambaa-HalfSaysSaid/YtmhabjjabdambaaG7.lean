/-
  half's put: what it leaves. Conditions: the set reads as a rising list (HR).
-/
import Derived.Test.YtmhabjjabdambaaG6

namespace Go.Proofs.Ytmhabjjabdambaa
open Go.ChangeShapes Go.WideShapes Go.ChangeAt Go.RowKit
set_option linter.unusedVariables false
set_option linter.unusedSimpArgs false

def PuPost (n : Nat) (S' : List Int) (b : Nat) (F : List Nat) (w : World) (e : Ending) (w' : World) : Prop := e = .returned (.tuple #[]) ∧ ∃ F', HR 57 n w' S' b F' ∧ (∀ i ∈ F', i ∈ F ∨ w.heap.size ≤ i) ∧ Kf (fun i => i ∈ F) w w'
theorem HB.yes {n : Nat} {S : List Int} {an : Bool} {le mo : Int} (h : HB n S an le mo) (hS : S ≠ []) : an = true := h.2.2.1.2 hS
set_option maxRecDepth 100000 in
set_option maxHeartbeats 8000000 in
theorem hput_any (n : Nat) : ∀ (hn : n ≤ 4) (S : List Int) (b : Nat) (F : List Nat) (x : Int) (w : World), HR 57 n w S b F → 0 ≤ x → x < UU n → Calls Try.prog 23 #[.pointer (some ⟨b, 0, none⟩), .int .i64 x] w (PuPost n (insU S x) b F w) := by
  induction n with
  | zero =>
    intro hn S b F x w hr h0 h1
    have HBF := hide hr.lt.1
    by_cases hS : S = []
    · subst hS
      obtain ⟨le, mo, mv, hv, hc, hnew⟩ := hr.first
      have c0 := hc.cell 0
      have c1 := hc.cell 1
      have c2 := hc.cell 2
      have c3 := hc.cell 3
      have f1 := hc.frozen 1
      have f2 := hc.frozen 2
      have f3 := hc.frozen 3
      simp only [hC, List.getElem?_cons_zero, List.getElem?_cons_succ] at c0 c1 c2 c3
      have HN := hide hnew
      have HC := hide (((hc.set (j := 1) (u := .bool true)).set (j := 2) (u := .int .i64 x)).set (j := 3) (u := .int .i64 x))
      clear hr hc hnew c0
      go_enter Try.func23, Try.ntmps23
      go_wp2
      exact bodyPost_ret (v := .tuple #[]) (by simp [results, Try.results23, go_sem]) rfl ⟨rfl, F, by rw [insU_nil]; exact HN.out x _ h0 h1 (Kf.set (Kf.set (Kf.set (Kf.refl _ _) (.inl rfl)) (.inl rfl)) (.inl rfl)) HC.out, fun i hi => .inl hi, Kf.set (Kf.set (Kf.set (Kf.refl _ _) (.inl HBF.out)) (.inl HBF.out)) (.inl HBF.out)⟩
    · obtain ⟨an, le, mo, hb, hc, rfl⟩ := hr
      have han := hb.yes hS
      subst han
      obtain ⟨q1, q2, q3⟩ := hb.2.2.2 rfl
      have HRR : Hid (HR 57 0 w S b [b]) := hide ⟨true, le, mo, hb, hc, rfl⟩
      have c0 := hc.cell 0
      have c1 := hc.cell 1
      have c2 := hc.cell 2
      have c3 := hc.cell 3
      have f1 := hc.frozen 1
      have f2 := hc.frozen 2
      have f3 := hc.frozen 3
      simp only [hC, List.getElem?_cons_zero, List.getElem?_cons_succ] at c0 c1 c2 c3
      have c0' : w.cell? ⟨b, 0, none⟩ = some (.int .i64 1) := c0
      by_cases e1 : x = le
      · have HSS := hide (insU_in hb.1 (e1 ▸ q1))
        have d1 : (x == le) = true := by simp [e1]
        clear hb hc q1 q2 q3 e1 c0 hS
        go_enter Try.func23, Try.ntmps23
        go_wp2
        exact bodyPost_ret (v := .tuple #[]) (by simp [results, Try.results23, go_sem]) rfl ⟨rfl, _, by rw [HSS.out]; exact HRR.out, fun i hi => .inl hi, Kf.refl _ _⟩
      · have d1 : (x == le) = false := by simpa using e1
        by_cases e2 : x < le
        · have d2 : decide (x < le) = true := decide_eq_true e2
          have m1 : (if mo < le then le else mo) = mo := if_neg (by have := (q3 le q1).2; omega)
          have HB' := hide (hb.low h0 h1 e2)
          have HC := hide ((hc.set (j := 2) (u := .int .i64 x)).set (j := 3) (u := .int .i64 mo))
          clear hb hc q1 q2 q3 e1 e2 c0 hS
          go_enter Try.func23, Try.ntmps23
          go_wp2
          exact bodyPost_ret (v := .tuple #[]) (by simp [results, Try.results23, go_sem]) rfl ⟨rfl, [b], ⟨true, x, mo, HB'.out, HC.out, rfl⟩, fun i hi => .inl hi, Kf.set (Kf.set (Kf.refl _ _) (.inl (by simp))) (.inl (by simp))⟩
        · have d2 : decide (x < le) = false := decide_eq_false e2
          obtain ⟨mo', hmo'⟩ : ∃ mo', (if mo < x then x else mo) = mo' := ⟨_, rfl⟩
          have HB' := hide (hb.high h0 h1 (by omega) hmo')
          have HC := hide (hc.set (j := 3) (u := .int .i64 mo'))
          clear hb hc q1 q2 q3 e1 e2 c0 hS
          go_enter Try.func23, Try.ntmps23
          go_wp2
          exact bodyPost_ret (v := .tuple #[]) (by simp [results, Try.results23, go_sem]) rfl ⟨rfl, [b], ⟨true, le, mo', HB'.out, HC.out, rfl⟩, fun i hi => .inl hi, Kf.set (Kf.refl _ _) (.inl (by simp))⟩
  | succ n ih =>
    intro hn S b F x w hr h0 h1
    have HBF := hide hr.lt.1
    by_cases hS : S = []
    · subst hS
      obtain ⟨le, mo, mv, hv, hc, hnew⟩ := hr.first
      have c0 := hc.cell 0
      have c1 := hc.cell 1
      have c2 := hc.cell 2
      have c3 := hc.cell 3
      have f1 := hc.frozen 1
      have f2 := hc.frozen 2
      have f3 := hc.frozen 3
      simp only [hC, List.getElem?_cons_zero, List.getElem?_cons_succ] at c0 c1 c2 c3
      have HN := hide hnew
      have HC := hide (((hc.set (j := 1) (u := .bool true)).set (j := 2) (u := .int .i64 x)).set (j := 3) (u := .int .i64 x))
      clear hr hc hnew c0
      go_enter Try.func23, Try.ntmps23
      go_wp2
      exact bodyPost_ret (v := .tuple #[]) (by simp [results, Try.results23, go_sem]) rfl ⟨rfl, F, by rw [insU_nil]; exact HN.out x _ h0 h1 (Kf.set (Kf.set (Kf.set (Kf.refl _ _) (.inl rfl)) (.inl rfl)) (.inl rfl)) HC.out, fun i hi => .inl hi, Kf.set (Kf.set (Kf.set (Kf.refl _ _) (.inl HBF.out)) (.inl HBF.out)) (.inl HBF.out)⟩
    · have HRR := hide hr
      have HBA := hide hr.lt.2
      obtain ⟨an, le, mo, hb, hcase⟩ := hr
      have han := hb.yes hS
      subst han
      obtain ⟨q1, q2, q3⟩ := hb.2.2.2 rfl
      have HIH := hide (ih (by omega))
      clear ih
      obtain ⟨bs, hbs⟩ : ∃ bs : Int, bs = ((2 ^ (n + 1) : Nat) : Int) := ⟨_, rfl⟩
      have hb1 : (bs == 1) = false := by
        rw [hbs]
        have := Nat.pow_lt_pow_right (show 1 < 2 by decide) (show 0 < n + 1 by omega)
        exact beq_eq_false_iff_ne.2 (by omega)
      have HHV := hide (fun z W (z0 : 0 ≤ z) (z1 : z < UU (n + 1)) (k : W.cell? ⟨b, 0, none⟩ = some (.int .i64 ((2 ^ (n + 1) : Nat) : Int))) => halves_any n (by omega) b z W k z0 z1)
      rw [← hbs] at HHV
      have HUP := hide hb.1
      have HLB := hide (hb.2.1 le q1)
      rcases hcase with ⟨hc, hF, h4⟩ | ⟨m, hb', Hs, Fh, E, hc, a2, a3, a4, a5, a6, a7, a8⟩
      · have HFF := hide hF
        clear hF
        have c0 := hc.cell 0
        have c1 := hc.cell 1
        have c2 := hc.cell 2
        have c3 := hc.cell 3
        have f1 := hc.frozen 1
        have f2 := hc.frozen 2
        have f3 := hc.frozen 3
        simp only [hC, List.getElem?_cons_zero, List.getElem?_cons_succ] at c0 c1 c2 c3
        rw [← hbs] at c0
        by_cases e1 : x = le
        · clear hbs hb1
          have HSS := hide (insU_in hb.1 (e1 ▸ q1))
          have d1 : (x == le) = true := by simp [e1]
          clear hb hc q1 q2 q3 e1 c0 hS
          go_enter Try.func23, Try.ntmps23
          go_wp2
          exact bodyPost_ret (v := .tuple #[]) (by simp [results, Try.results23, go_sem]) rfl ⟨rfl, _, by rw [HSS.out]; exact HRR.out, fun i hi => .inl hi, Kf.refl _ _⟩
        · have H4 := hide (h4 rfl)
          have d1 : (x == le) = false := by simpa using e1
          by_cases e2 : x < le
          · have d2 : decide (x < le) = true := decide_eq_true e2
            have m1 : (if mo < le then le else mo) = mo := if_neg (by have := (q3 le q1).2; omega)
            have HB' := hide (hb.low h0 h1 e2)
            have HIF := hide (low_iff q1 (fun y hy => (q3 y hy).1) e2)
            have HZI : Hid (0 ≤ le ∧ le < UU (n + 1)) := HLB
            have HC := hide ((hc.set (j := 2) (u := .int .i64 x)).set (j := 3) (u := .int .i64 mo))
            have HKF := hide (Kf.set (F := fun i => i = b) (p := ⟨b, 3, none⟩) (u := .int .i64 mo) (Kf.set (F := fun i => i = b) (p := ⟨b, 2, none⟩) (u := .int .i64 x) (Kf.refl _ w) (.inl rfl)) (.inl rfl))
            clear hb hc q1 q2 q3 e1 e2 hS h4
            go_enter Try.func23, Try.ntmps23
            go_wp2_with fail
            obtain ⟨W, hW⟩ : ∃ W, W = (w.setCell ⟨b, 2, none⟩ (.int .i64 x)).setCell ⟨b, 3, none⟩ (.int .i64 mo) := ⟨_, rfl⟩
            rw [← hW] at HC HKF ⊢
            clear hW
            have HKW : Hid (Kf (fun i => i ∈ F) w W) := hide (HKF.out.mono fun i _ e => e ▸ HBF.out)
            have HKB : Hid (Kf (fun i => i = b) w W) := HKF
            have cz := HC.out.cell 0
            simp only [hC, List.set_cons_zero, List.set_cons_succ, List.getElem?_cons_zero] at cz
            rw [← hbs] at cz
            have hsp := half_in (M := UU n) (by have := UU_pos n; omega) HZI.out.1 (by have := HZI.out.2; rw [UU] at this; exact this)
            have HX := hide hsp
            have HBS := hide hbs
            clear hsp c0 c1 c2 c3 f1 f2 f3 hbs
            with_reducible refine (HHV.out le W HZI.out.1 HZI.out.2 cz).mono ?_
            rintro e9 w1 ⟨rfl, md, rfl⟩
            have hcd : BC (W.drewN md) b 57 (hC (n + 1) true x mo (.map none) (.pointer none)) := HC.out.kp (Kp.refl W).drewN
            have HKD0 : Hid (Kf (fun i => i ∈ F) w (W.drewN md)) := hide (HKW.out.on (Kp.refl W).drewN)
            obtain ⟨Wd, hWd⟩ : ∃ Wd, Wd = W.drewN md := ⟨_, rfl⟩
            rw [← hWd] at hcd HKD0 ⊢
            clear hWd cz
            have cb4 := hcd.cell 4
            simp only [hC, List.getElem?_cons_zero, List.getElem?_cons_succ] at cb4
            obtain ⟨bs3, hbs3⟩ : ∃ bs3 : Int, bs3 = ((2 ^ (n + 1) : Nat) : Int) := ⟨_, rfl⟩
            obtain ⟨B0, hB0⟩ : ∃ B0 : Int, B0 = ((2 ^ n : Nat) : Int) := ⟨_, rfl⟩
            obtain ⟨hq3, hq4⟩ := half_bits2 n hn hbs3
            rw [← hB0] at hq3 hq4
            have HB3 := hide hbs3
            have HB0 := hide hB0
            have hem := run_eqmap (P := Try.prog) Wd 55 _ _ none Try.underlying55
            simp only [Option.isNone_none] at hem
            have HJ := hide (J9.start hcd)
            clear hcd hbs3 hB0
            go_wp2_with fail
            refine wp_region_tab (by kernel_rfl) [(68, .pointer (some ⟨b, 0, none⟩)), (69, .pointer (some ⟨b, 0, none⟩)), (71, .pointer (some ⟨b, 0, none⟩)), (72, .pointer (some ⟨b, 0, none⟩)), (73, .pointer (some ⟨b, 0, none⟩)), (74, .int .i64 bs3), (75, .pointer (some ⟨b, 0, none⟩)), (76, .pointer (some ⟨b, 0, none⟩)), (77, .pointer (some ⟨b, 0, none⟩)), (78, .int .i64 bs3), (79, .int .i64 B0), (80, .int .i64 B0), (82, .pointer (some ⟨b, 0, none⟩)), (83, .pointer (some ⟨b, 4, none⟩)), (84, .pointer (some ⟨b, 0, none⟩)), (85, .pointer (some ⟨b, 5, none⟩))] (G9 57 Wd n) (J9 57 Wd b n x mo) HJ.out (by kernel_rfl) (by kernel_rfl) ?_ ?_
            · refine ⟨?_, ?_, ?_, ?_, ?_, ?_, ?_, ?_, ?_, ?_, ?_, ?_, ?_, ?_, ?_, ?_, ?_, ?_, ?_, ?_, trivial⟩
              · intro hop L a w5 hs hk hl ha keep know spec
                have h0 := keep 0 (.pointer (some ⟨b, 0, none⟩)) (by kernel_rfl) rfl
                exact wpOp_value hop (wanted_none rfl) (v := .pointer (some ⟨b, 0, none⟩)) (by simp only [execOp, Act.eval, h0]; rfl) ⟨_, rfl, hk.go (by decide) (by decide), (fun d hd => by injection hd with hd; subst hd; exact ⟨tab rfl, G9.not (by decide) (by decide)⟩), fun _ _ h => h⟩
              · intro hop L a w5 hs hk hl ha keep know spec
                have h0 := keep 0 (.pointer (some ⟨b, 0, none⟩)) (by kernel_rfl) rfl
                exact wpOp_value hop (wanted_none rfl) (v := .pointer (some ⟨b, 0, none⟩)) (by simp only [execOp, Act.eval, h0]; rfl) ⟨_, rfl, hk.go (by decide) (by decide), (fun d hd => by injection hd with hd; subst hd; exact ⟨tab rfl, G9.not (by decide) (by decide)⟩), fun _ _ h => h⟩
              · intro hop L a w5 hs hk hl ha keep know spec
                exact wpOp_value hop (wanted_none rfl) (v := .map (some w5.heap.size)) (w' := w5.alloc (.map #[] 0)) (by simp only [execOp]; exact run_v (run_makeMap _ _)) ⟨_, rfl, hk.kp (Kp.refl _).alloc (by decide) (by decide), (fun d hd => by injection hd with hd; subst hd; exact ⟨tab_none rfl, ⟨fun _ => ⟨_, rfl, hk.1.size, PM.new⟩, fun e => by omega⟩⟩), fun _ _ h => h.kp (Kp.refl _).alloc⟩
              · intro hop L a w5 hs hk hl ha keep know spec
                have h0 := keep 0 (.pointer (some ⟨b, 0, none⟩)) (by kernel_rfl) rfl
                exact wpOp_value hop (wanted_none rfl) (v := .pointer (some ⟨b, 0, none⟩)) (by simp only [execOp, Act.eval, h0]; rfl) ⟨_, rfl, hk.go (by decide) (by decide), (fun d hd => by injection hd with hd; subst hd; exact ⟨tab rfl, G9.not (by decide) (by decide)⟩), fun _ _ h => h⟩
              · intro hop L a w5 hs hk hl ha keep know spec
                have h71 := know 71 (.pointer (some ⟨b, 0, none⟩)) (by kernel_rfl) rfl
                exact wpOp_value hop (wanted_none rfl) (v := .pointer (some ⟨b, 0, none⟩)) (by simp only [execOp, Act.eval, h71]; go_simp) ⟨_, rfl, hk.go (by decide) (by decide), (fun d hd => by injection hd with hd; subst hd; exact ⟨tab rfl, G9.not (by decide) (by decide)⟩), fun _ _ h => h⟩
              · intro hop L a w5 hs hk hl ha keep know spec
                have h72 := know 72 (.pointer (some ⟨b, 0, none⟩)) (by kernel_rfl) rfl
                exact wpOp_value hop (wanted_none rfl) (v := .pointer (some ⟨b, 0, none⟩)) (by simp only [execOp, Act.eval, h72]; go_simp) ⟨_, rfl, hk.go (by decide) (by decide), (fun d hd => by injection hd with hd; subst hd; exact ⟨tab rfl, G9.not (by decide) (by decide)⟩), fun _ _ h => h⟩
              · intro hop L a w5 hs hk hl ha keep know spec
                have h73 := know 73 (.pointer (some ⟨b, 0, none⟩)) (by kernel_rfl) rfl
                exact wpOp_value hop (wanted_none rfl) (v := .int .i64 bs3) (by simp only [execOp, Act.eval, h73]; exact run_v (hk.load HB3.out)) ⟨_, rfl, hk.go (by decide) (by decide), (fun d hd => by injection hd with hd; subst hd; exact ⟨tab rfl, G9.not (by decide) (by decide)⟩), fun _ _ h => h⟩
              · intro hop L a w5 hs hk hl ha keep know spec
                have h0 := keep 0 (.pointer (some ⟨b, 0, none⟩)) (by kernel_rfl) rfl
                exact wpOp_value hop (wanted_none rfl) (v := .pointer (some ⟨b, 0, none⟩)) (by simp only [execOp, Act.eval, h0]; rfl) ⟨_, rfl, hk.go (by decide) (by decide), (fun d hd => by injection hd with hd; subst hd; exact ⟨tab rfl, G9.not (by decide) (by decide)⟩), fun _ _ h => h⟩
              · intro hop L a w5 hs hk hl ha keep know spec
                have h75 := know 75 (.pointer (some ⟨b, 0, none⟩)) (by kernel_rfl) rfl
                exact wpOp_value hop (wanted_none rfl) (v := .pointer (some ⟨b, 0, none⟩)) (by simp only [execOp, Act.eval, h75]; go_simp) ⟨_, rfl, hk.go (by decide) (by decide), (fun d hd => by injection hd with hd; subst hd; exact ⟨tab rfl, G9.not (by decide) (by decide)⟩), fun _ _ h => h⟩
              · intro hop L a w5 hs hk hl ha keep know spec
                have h76 := know 76 (.pointer (some ⟨b, 0, none⟩)) (by kernel_rfl) rfl
                exact wpOp_value hop (wanted_none rfl) (v := .pointer (some ⟨b, 0, none⟩)) (by simp only [execOp, Act.eval, h76]; go_simp) ⟨_, rfl, hk.go (by decide) (by decide), (fun d hd => by injection hd with hd; subst hd; exact ⟨tab rfl, G9.not (by decide) (by decide)⟩), fun _ _ h => h⟩
              · intro hop L a w5 hs hk hl ha keep know spec
                have h77 := know 77 (.pointer (some ⟨b, 0, none⟩)) (by kernel_rfl) rfl
                exact wpOp_value hop (wanted_none rfl) (v := .int .i64 bs3) (by simp only [execOp, Act.eval, h77]; exact run_v (hk.load HB3.out)) ⟨_, rfl, hk.go (by decide) (by decide), (fun d hd => by injection hd with hd; subst hd; exact ⟨tab rfl, G9.not (by decide) (by decide)⟩), fun _ _ h => h⟩
              · intro hop L a w5 hs hk hl ha keep know spec
                have h78 := know 78 (.int .i64 bs3) (by kernel_rfl) rfl
                exact wpOp_value hop (wanted_none rfl) (v := .int .i64 B0) (by simp only [execOp, Act.eval, h78]; go_simp <;> simp only [hq3]) ⟨_, rfl, hk.go (by decide) (by decide), (fun d hd => by injection hd with hd; subst hd; exact ⟨tab rfl, G9.not (by decide) (by decide)⟩), fun _ _ h => h⟩
              · intro hop L a w5 hs hk hl ha keep know spec
                have h74 := know 74 (.int .i64 bs3) (by kernel_rfl) rfl
                have h79 := know 79 (.int .i64 B0) (by kernel_rfl) rfl
                exact wpOp_value hop (wanted_none rfl) (v := .int .i64 B0) (by simp only [execOp, Act.eval, h74, h79]; go_simp <;> simp only [hq4]) ⟨_, rfl, hk.go (by decide) (by decide), (fun d hd => by injection hd with hd; subst hd; exact ⟨tab rfl, G9.not (by decide) (by decide)⟩), fun _ _ h => h⟩
              · intro hop L a w5 hs hk hl ha keep know spec
                have h80 := know 80 (.int .i64 B0) (by kernel_rfl) rfl
                exact wpOp_call hop (wanted_none rfl) (by simp only [execOp, resolve, Act.eval, List.map_toArray, List.map_cons, List.map_nil, h80]; rfl) (hmade_any B0 w5) fun r w6 hR => by
                  obtain ⟨rfl, rfl⟩ := hR
                  exact ⟨_, rfl, _, rfl, hk.kp (Kp.refl _).alloc (by decide) (by decide), (fun d hd => by injection hd with hd; subst hd; exact ⟨tab_none rfl, ⟨fun e => by omega, fun _ => ⟨_, rfl, hk.1.size, by rw [HB0.out]; exact BC.new _ _ _⟩⟩⟩), fun _ _ h => h.kp (Kp.refl _).alloc⟩
              · intro hop L a w5 hs hk hl ha keep know spec
                have h68 := know 68 (.pointer (some ⟨b, 0, none⟩)) (by kernel_rfl) rfl
                exact wpOp_value hop (wanted_none rfl) (v := .pointer (some ⟨b, 0, none⟩)) (by simp only [execOp, Act.eval, h68]; go_simp) ⟨_, rfl, hk.go (by decide) (by decide), (fun d hd => by injection hd with hd; subst hd; exact ⟨tab rfl, G9.not (by decide) (by decide)⟩), fun _ _ h => h⟩
              · intro hop L a w5 hs hk hl ha keep know spec
                have h82 := know 82 (.pointer (some ⟨b, 0, none⟩)) (by kernel_rfl) rfl
                exact wpOp_value hop (wanted_none rfl) (v := .pointer (some ⟨b, 4, none⟩)) (by simp only [execOp, Act.eval, h82]; go_simp) ⟨_, rfl, hk.go (by decide) (by decide), (fun d hd => by injection hd with hd; subst hd; exact ⟨tab rfl, G9.not (by decide) (by decide)⟩), fun _ _ h => h⟩
              · intro hop L a w5 hs hk hl ha keep know spec
                have h83 := know 83 (.pointer (some ⟨b, 4, none⟩)) (by kernel_rfl) rfl
                have hG := spec 70 (by kernel_rfl)
                obtain ⟨v, hv⟩ : ∃ v, v = a.tmps.getD 70 undef := ⟨_, rfl⟩
                rw [← hv] at hG
                exact wpOp_skip hop (wanted_none rfl) (w' := w5.setCell ⟨b, 4, none⟩ v) (by simp only [execOp, Act.eval, h83, ← hv]; exact run_u (hk.store4 hG)) ⟨_, rfl, hk.map hG, (fun d hd => by cases hd), fun _ _ h => h.kf (hk.on_b 4 v) (fun i e => by have := hk.2.1; omega)⟩
              · intro hop L a w5 hs hk hl ha keep know spec
                have h69 := know 69 (.pointer (some ⟨b, 0, none⟩)) (by kernel_rfl) rfl
                exact wpOp_value hop (wanted_none rfl) (v := .pointer (some ⟨b, 0, none⟩)) (by simp only [execOp, Act.eval, h69]; go_simp) ⟨_, rfl, hk.go (by decide) (by decide), (fun d hd => by injection hd with hd; subst hd; exact ⟨tab rfl, G9.not (by decide) (by decide)⟩), fun _ _ h => h⟩
              · intro hop L a w5 hs hk hl ha keep know spec
                have h84 := know 84 (.pointer (some ⟨b, 0, none⟩)) (by kernel_rfl) rfl
                exact wpOp_value hop (wanted_none rfl) (v := .pointer (some ⟨b, 5, none⟩)) (by simp only [execOp, Act.eval, h84]; go_simp) ⟨_, rfl, hk.go (by decide) (by decide), (fun d hd => by injection hd with hd; subst hd; exact ⟨tab rfl, G9.not (by decide) (by decide)⟩), fun _ _ h => h⟩
              · intro hop L a w5 hs hk hl ha keep know spec
                have h85 := know 85 (.pointer (some ⟨b, 5, none⟩)) (by kernel_rfl) rfl
                have hG := spec 81 (by kernel_rfl)
                obtain ⟨v, hv⟩ : ∃ v, v = a.tmps.getD 81 undef := ⟨_, rfl⟩
                rw [← hv] at hG
                exact wpOp_skip hop (wanted_none rfl) (w' := w5.setCell ⟨b, 5, none⟩ v) (by simp only [execOp, Act.eval, h85, ← hv]; exact run_u (hk.store5 hG)) ⟨_, rfl, hk.highs hG, (fun d hd => by cases hd), fun _ _ h => h.kf (hk.on_b 5 v) (fun i e => by have := hk.2.1; omega)⟩
            · intro a' w5 e1 e2 hk keep know spec
              obtain ⟨tm, df⟩ := a'
              obtain ⟨f, hf⟩ := frame_puts (D := [68, 69, 70, 71, 72, 73, 74, 75, 76, 77, 78, 79, 80, 81, 82, 83, 84, 85]) e2 keep
              have e1' : df = [] := e1
              clear keep know spec e1 e2
              simp only [List.foldl_cons, List.foldl_nil] at hf
              subst e1'
              have he := hk.end_
              clear hk
              rw [hf]
              clear hf hem cb4 HJ hq3 hq4 HB3 HB0
              obtain ⟨m, hb', hq5, hk5, hm5, hh5⟩ := he
              have HQD := hide hq5
              have hwd := HKD0.out.size
              have HKD : Hid (Kf (fun i => i ∈ F) w w5) := hide (HKD0.out.trans hk5 fun i _ e => by have := HBF.out; rw [e]; exact this)
              have HFS : Hid (∀ i ∈ [b, m, hb'], i ∈ F ∨ w.heap.size ≤ i) := hide (fun i hi => by
                simp only [List.mem_cons, List.not_mem_nil, or_false] at hi
                rcases hi with rfl | rfl | rfl
                · exact .inl HBF.out
                · exact .inr (by omega)
                · exact .inr (by omega))
              have HMF : Hid (∀ i, i < w.heap.size → i = m → i ∈ F) := hide (fun i hi e => by omega)
              have HPH := hide (HP.empty (n := n) H4.out)
              have HNO : Hid (∀ e ∈ ([] : List HE), e.h ≠ le / UU n) := hide (fun e he => by cases he)
              have hlkn : lkP (([] : List HE).map fun e => (e.h, e.b)) (le / UU n) = none := rfl
              have hlk := hq5.2.1.lookup (P := Try.prog) Try.underlying55 Try.underlying3 (hptr_zero w5) (le / UU n)
              rw [hlkn] at hlk
              simp only [Option.map_none] at hlk
              have cb := fun j => hq5.1.cell j
              have cb0 := cb 0
              have cb4 := cb 4
              simp only [hC, List.getElem?_cons_zero, List.getElem?_cons_succ] at cb0 cb4
              obtain ⟨bs2, hbs2⟩ : ∃ bs2 : Int, bs2 = ((2 ^ (n + 1) : Nat) : Int) := ⟨_, rfl⟩
              rw [← hbs2] at cb0
              clear hq5 hk5 hm5 hh5 hwd
              obtain ⟨hq2, _⟩ := half_bits n hn hbs2
              obtain ⟨B0, hB0⟩ : ∃ B0 : Int, B0 = ((2 ^ n : Nat) : Int) := ⟨_, rfl⟩
              rw [← hB0] at hq2
              have HB0 := hide hB0
              clear cb hbs2 hB0
              go_wp2_with fail
              with_reducible refine (hmade_any B0 w5).mono ?_
              rintro e9 w2 ⟨rfl, hw2⟩
              have hk2 : Kp w5 w2 := by rw [hw2]; exact (Kp.refl _).alloc
              have hpc : BC w2 (w5).heap.size 57 (hC n false 0 0 (.map none) (.pointer none)) := by
                rw [hw2, HB0.out]; exact BC.new _ _ _
              obtain ⟨pb, hpb⟩ : ∃ pb, pb = (w5).heap.size := ⟨_, rfl⟩
              rw [← hpb] at hpc ⊢
              clear hw2
              have hpl := HQD.out.2.1.lt
              obtain ⟨w3, hup, hpm, hkm⟩ := ((HQD.out.kp hk2).2.1).put (P := Try.prog) Try.underlying55 Try.underlying3 (x := le / UU n) hlkn pb
              have hq3 := (HQD.out).add (w' := w3) (pb := pb) (by omega) HX.out.1 HX.out.2.1 HNO.out ((Kf.of hk2).trans hkm fun _ _ h => h) (HR.new n (hpc.kf hkm (by omega))) hpm
              have HQN := hide hq3
              have HKN : Hid (Kf (fun i => i ∈ F) w w3) := hide (HKD.out.trans ((Kf.of (F := fun i => i = m) hk2).trans hkm fun _ _ h => h) fun i hi h => HMF.out i hi h)
              have HFS0 := hide (fun z1 : w.heap.size ≤ pb => fun i (hi : i ∈ [b, m, hb'] ++ [pb]) => (List.mem_append.1 hi).elim (HFS.out i) (fun h => .inr (by rw [List.mem_singleton.1 h]; exact z1)))
              have HFS : Hid (∀ i ∈ [b, m, hb'] ++ [pb], i ∈ F ∨ w.heap.size ≤ i) := hide (HFS0.out (by have := HKD.out.size; omega))
              clear HFS0
              have cu4 := (HQD.out.kp hk2).1.cell 4
              have cn := fun j => HQN.out.1.cell j
              have cn5 := cn 5
              simp only [hC, List.getElem?_cons_zero, List.getElem?_cons_succ] at cu4 cn5
              have p1 := (hpc.kf hkm (by omega)).cell 1
              simp only [hC, List.getElem?_cons_zero, List.getElem?_cons_succ] at p1
              have HPH0 := hide (HPH.out.add (le / UU n) pb [pb])
              clear HPH
              have HPH := HPH0
              clear HPH0
              obtain ⟨EN, hEN⟩ : ∃ EN, EN = ([] : List HE) ++ [⟨le / UU n, pb, [], [pb]⟩] := ⟨_, rfl⟩
              have HE0 : Hid ((⟨le / UU n, pb, [], [pb]⟩ : HE) ∈ EN) := hide (by rw [hEN]; simp)
              rw [← hEN] at HPH HQN
              clear hEN
              obtain ⟨e0, he0⟩ : ∃ e0 : HE, e0 = ⟨le / UU n, pb, [], [pb]⟩ := ⟨_, rfl⟩
              rw [← he0] at HE0
              have HF1 : Hid (e0.h = le / UU n) := hide (by rw [he0])
              have HF2 : Hid (e0.b = pb) := hide (by rw [he0])
              have HQH := hide (HQN.out.2.2.1)
              have HND := hide HQN.out.2.2.2.2.1
              clear hpc hpl hk2 hkm hpm hq3 cn he0 hpb
              go_wp2_with (first | (at_mapUpdate; refine wpList_mapUpdate_run w3 rfl _ _ _ _ rfl _ _ _ rfl rfl rfl hup ?_) | fail)
              go_wp2_with fail
              with_reducible refine (HIH.out [] hb' [hb'] (le / UU n) w3 HQH.out HX.out.1 HX.out.2.1).mono ?_
              rintro e9 w6 ⟨rfl, Fh6, hr6, hin6, hk6⟩
              obtain ⟨F6, hq6, hf6, hkf6⟩ := HQN.out.highs hk6 hr6 hin6
              have HQ6 := hide hq6
              have HF6 := hide hf6
              have HK6 := hide (HKN.out.trans hkf6 fun i hi h => (HFS.out i h).elim id (fun h => absurd hi (by omega)))
              clear hr6 hin6 hk6 hq6 hf6 hkf6
              have hre := (HQ6.out.2.2.2.1 e0 HE0.out).1
              rw [HF2.out] at hre
              have HRE := hide hre
              clear hre
              go_wp2_with fail
              with_reducible refine (HIH.out e0.S pb e0.F (le % UU n) w6 HRE.out HX.out.2.2.1 HX.out.2.2.2.1).mono ?_
              rintro e9 w7 ⟨rfl, F7, hr7, hin7, hk7⟩
              obtain ⟨F8, hq8, hf8, hkf8⟩ := HQ6.out.part HE0.out hk7 (by rw [HF2.out]; exact hr7) hin7
              rw [HF1.out] at hq8
              have HRES := hide (hq8.put HB'.out HPH.out HND.out HE0.out HZI.out.1 HZI.out.2 HF1.out (fun v => by simpa using HIF.out v) rfl)
              have HSUB : Hid (∀ i ∈ F8, i ∈ F ∨ w.heap.size ≤ i) := hide (fun i hi => by
                have z1 := HKN.out.size
                have z2 := HK6.out.size
                rcases hf8 i hi with h | h
                · rcases HF6.out i h with h | h
                  · exact HFS.out i h
                  · exact .inr (by omega)
                · exact .inr (by omega))
              have HKK := hide (HK6.out.trans hkf8 fun i hi h => (HF6.out i h).elim (fun h => (HFS.out i h).elim id (fun h => absurd hi (by omega))) (fun h => absurd hi (by have := HKN.out.size; omega)))
              clear hr7 hin7 hk7 hq8 hf8 hkf8
              go_wp2
              exact bodyPost_end (v := .tuple #[]) (by simp [results, Try.results23, go_sem]) rfl ⟨rfl, F8, HRES.out, HSUB.out, HKK.out⟩
          · have d2 : decide (x < le) = false := decide_eq_false e2
            obtain ⟨mo', hmo'⟩ : ∃ mo', (if mo < x then x else mo) = mo' := ⟨_, rfl⟩
            have hlx : le < x := by omega
            have HB' := hide (hb.high h0 h1 hlx hmo')
            have HIF := hide (high_iff (S := S) hlx)
            have HZI : Hid (0 ≤ x ∧ x < UU (n + 1)) := hide ⟨h0, h1⟩
            have HC := hide (hc.set (j := 3) (u := .int .i64 mo'))
            have HKF := hide (Kf.set (F := fun i => i = b) (p := ⟨b, 3, none⟩) (u := .int .i64 mo') (Kf.refl _ w) (.inl rfl))
            clear hb hc q1 q2 q3 e1 e2 hS h4 hlx
            go_enter Try.func23, Try.ntmps23
            go_wp2_with fail
            obtain ⟨W, hW⟩ : ∃ W, W = w.setCell ⟨b, 3, none⟩ (.int .i64 mo') := ⟨_, rfl⟩
            rw [← hW] at HC HKF ⊢
            clear hW
            have HKW : Hid (Kf (fun i => i ∈ F) w W) := hide (HKF.out.mono fun i _ e => e ▸ HBF.out)
            have HKB : Hid (Kf (fun i => i = b) w W) := HKF
            have cz := HC.out.cell 0
            simp only [hC, List.set_cons_zero, List.set_cons_succ, List.getElem?_cons_zero] at cz
            rw [← hbs] at cz
            have hsp := half_in (M := UU n) (by have := UU_pos n; omega) HZI.out.1 (by have := HZI.out.2; rw [UU] at this; exact this)
            have HX := hide hsp
            have HBS := hide hbs
            clear hsp c0 c1 c2 c3 f1 f2 f3 hbs
            with_reducible refine (HHV.out x W HZI.out.1 HZI.out.2 cz).mono ?_
            rintro e9 w1 ⟨rfl, md, rfl⟩
            have hcd : BC (W.drewN md) b 57 (hC (n + 1) true le mo' (.map none) (.pointer none)) := HC.out.kp (Kp.refl W).drewN
            have HKD0 : Hid (Kf (fun i => i ∈ F) w (W.drewN md)) := hide (HKW.out.on (Kp.refl W).drewN)
            obtain ⟨Wd, hWd⟩ : ∃ Wd, Wd = W.drewN md := ⟨_, rfl⟩
            rw [← hWd] at hcd HKD0 ⊢
            clear hWd cz
            have cb4 := hcd.cell 4
            simp only [hC, List.getElem?_cons_zero, List.getElem?_cons_succ] at cb4
            obtain ⟨bs3, hbs3⟩ : ∃ bs3 : Int, bs3 = ((2 ^ (n + 1) : Nat) : Int) := ⟨_, rfl⟩
            obtain ⟨B0, hB0⟩ : ∃ B0 : Int, B0 = ((2 ^ n : Nat) : Int) := ⟨_, rfl⟩
            obtain ⟨hq3, hq4⟩ := half_bits2 n hn hbs3
            rw [← hB0] at hq3 hq4
            have HB3 := hide hbs3
            have HB0 := hide hB0
            have hem := run_eqmap (P := Try.prog) Wd 55 _ _ none Try.underlying55
            simp only [Option.isNone_none] at hem
            have HJ := hide (J9.start hcd)
            clear hcd hbs3 hB0
            go_wp2_with fail
            refine wp_region_tab (by kernel_rfl) [(68, .pointer (some ⟨b, 0, none⟩)), (69, .pointer (some ⟨b, 0, none⟩)), (71, .pointer (some ⟨b, 0, none⟩)), (72, .pointer (some ⟨b, 0, none⟩)), (73, .pointer (some ⟨b, 0, none⟩)), (74, .int .i64 bs3), (75, .pointer (some ⟨b, 0, none⟩)), (76, .pointer (some ⟨b, 0, none⟩)), (77, .pointer (some ⟨b, 0, none⟩)), (78, .int .i64 bs3), (79, .int .i64 B0), (80, .int .i64 B0), (82, .pointer (some ⟨b, 0, none⟩)), (83, .pointer (some ⟨b, 4, none⟩)), (84, .pointer (some ⟨b, 0, none⟩)), (85, .pointer (some ⟨b, 5, none⟩))] (G9 57 Wd n) (J9 57 Wd b n le mo') HJ.out (by kernel_rfl) (by kernel_rfl) ?_ ?_
            · refine ⟨?_, ?_, ?_, ?_, ?_, ?_, ?_, ?_, ?_, ?_, ?_, ?_, ?_, ?_, ?_, ?_, ?_, ?_, ?_, ?_, trivial⟩
              · intro hop L a w5 hs hk hl ha keep know spec
                have h0 := keep 0 (.pointer (some ⟨b, 0, none⟩)) (by kernel_rfl) rfl
                exact wpOp_value hop (wanted_none rfl) (v := .pointer (some ⟨b, 0, none⟩)) (by simp only [execOp, Act.eval, h0]; rfl) ⟨_, rfl, hk.go (by decide) (by decide), (fun d hd => by injection hd with hd; subst hd; exact ⟨tab rfl, G9.not (by decide) (by decide)⟩), fun _ _ h => h⟩
              · intro hop L a w5 hs hk hl ha keep know spec
                have h0 := keep 0 (.pointer (some ⟨b, 0, none⟩)) (by kernel_rfl) rfl
                exact wpOp_value hop (wanted_none rfl) (v := .pointer (some ⟨b, 0, none⟩)) (by simp only [execOp, Act.eval, h0]; rfl) ⟨_, rfl, hk.go (by decide) (by decide), (fun d hd => by injection hd with hd; subst hd; exact ⟨tab rfl, G9.not (by decide) (by decide)⟩), fun _ _ h => h⟩
              · intro hop L a w5 hs hk hl ha keep know spec
                exact wpOp_value hop (wanted_none rfl) (v := .map (some w5.heap.size)) (w' := w5.alloc (.map #[] 0)) (by simp only [execOp]; exact run_v (run_makeMap _ _)) ⟨_, rfl, hk.kp (Kp.refl _).alloc (by decide) (by decide), (fun d hd => by injection hd with hd; subst hd; exact ⟨tab_none rfl, ⟨fun _ => ⟨_, rfl, hk.1.size, PM.new⟩, fun e => by omega⟩⟩), fun _ _ h => h.kp (Kp.refl _).alloc⟩
              · intro hop L a w5 hs hk hl ha keep know spec
                have h0 := keep 0 (.pointer (some ⟨b, 0, none⟩)) (by kernel_rfl) rfl
                exact wpOp_value hop (wanted_none rfl) (v := .pointer (some ⟨b, 0, none⟩)) (by simp only [execOp, Act.eval, h0]; rfl) ⟨_, rfl, hk.go (by decide) (by decide), (fun d hd => by injection hd with hd; subst hd; exact ⟨tab rfl, G9.not (by decide) (by decide)⟩), fun _ _ h => h⟩
              · intro hop L a w5 hs hk hl ha keep know spec
                have h71 := know 71 (.pointer (some ⟨b, 0, none⟩)) (by kernel_rfl) rfl
                exact wpOp_value hop (wanted_none rfl) (v := .pointer (some ⟨b, 0, none⟩)) (by simp only [execOp, Act.eval, h71]; go_simp) ⟨_, rfl, hk.go (by decide) (by decide), (fun d hd => by injection hd with hd; subst hd; exact ⟨tab rfl, G9.not (by decide) (by decide)⟩), fun _ _ h => h⟩
              · intro hop L a w5 hs hk hl ha keep know spec
                have h72 := know 72 (.pointer (some ⟨b, 0, none⟩)) (by kernel_rfl) rfl
                exact wpOp_value hop (wanted_none rfl) (v := .pointer (some ⟨b, 0, none⟩)) (by simp only [execOp, Act.eval, h72]; go_simp) ⟨_, rfl, hk.go (by decide) (by decide), (fun d hd => by injection hd with hd; subst hd; exact ⟨tab rfl, G9.not (by decide) (by decide)⟩), fun _ _ h => h⟩
              · intro hop L a w5 hs hk hl ha keep know spec
                have h73 := know 73 (.pointer (some ⟨b, 0, none⟩)) (by kernel_rfl) rfl
                exact wpOp_value hop (wanted_none rfl) (v := .int .i64 bs3) (by simp only [execOp, Act.eval, h73]; exact run_v (hk.load HB3.out)) ⟨_, rfl, hk.go (by decide) (by decide), (fun d hd => by injection hd with hd; subst hd; exact ⟨tab rfl, G9.not (by decide) (by decide)⟩), fun _ _ h => h⟩
              · intro hop L a w5 hs hk hl ha keep know spec
                have h0 := keep 0 (.pointer (some ⟨b, 0, none⟩)) (by kernel_rfl) rfl
                exact wpOp_value hop (wanted_none rfl) (v := .pointer (some ⟨b, 0, none⟩)) (by simp only [execOp, Act.eval, h0]; rfl) ⟨_, rfl, hk.go (by decide) (by decide), (fun d hd => by injection hd with hd; subst hd; exact ⟨tab rfl, G9.not (by decide) (by decide)⟩), fun _ _ h => h⟩
              · intro hop L a w5 hs hk hl ha keep know spec
                have h75 := know 75 (.pointer (some ⟨b, 0, none⟩)) (by kernel_rfl) rfl
                exact wpOp_value hop (wanted_none rfl) (v := .pointer (some ⟨b, 0, none⟩)) (by simp only [execOp, Act.eval, h75]; go_simp) ⟨_, rfl, hk.go (by decide) (by decide), (fun d hd => by injection hd with hd; subst hd; exact ⟨tab rfl, G9.not (by decide) (by decide)⟩), fun _ _ h => h⟩
              · intro hop L a w5 hs hk hl ha keep know spec
                have h76 := know 76 (.pointer (some ⟨b, 0, none⟩)) (by kernel_rfl) rfl
                exact wpOp_value hop (wanted_none rfl) (v := .pointer (some ⟨b, 0, none⟩)) (by simp only [execOp, Act.eval, h76]; go_simp) ⟨_, rfl, hk.go (by decide) (by decide), (fun d hd => by injection hd with hd; subst hd; exact ⟨tab rfl, G9.not (by decide) (by decide)⟩), fun _ _ h => h⟩
              · intro hop L a w5 hs hk hl ha keep know spec
                have h77 := know 77 (.pointer (some ⟨b, 0, none⟩)) (by kernel_rfl) rfl
                exact wpOp_value hop (wanted_none rfl) (v := .int .i64 bs3) (by simp only [execOp, Act.eval, h77]; exact run_v (hk.load HB3.out)) ⟨_, rfl, hk.go (by decide) (by decide), (fun d hd => by injection hd with hd; subst hd; exact ⟨tab rfl, G9.not (by decide) (by decide)⟩), fun _ _ h => h⟩
              · intro hop L a w5 hs hk hl ha keep know spec
                have h78 := know 78 (.int .i64 bs3) (by kernel_rfl) rfl
                exact wpOp_value hop (wanted_none rfl) (v := .int .i64 B0) (by simp only [execOp, Act.eval, h78]; go_simp <;> simp only [hq3]) ⟨_, rfl, hk.go (by decide) (by decide), (fun d hd => by injection hd with hd; subst hd; exact ⟨tab rfl, G9.not (by decide) (by decide)⟩), fun _ _ h => h⟩
              · intro hop L a w5 hs hk hl ha keep know spec
                have h74 := know 74 (.int .i64 bs3) (by kernel_rfl) rfl
                have h79 := know 79 (.int .i64 B0) (by kernel_rfl) rfl
                exact wpOp_value hop (wanted_none rfl) (v := .int .i64 B0) (by simp only [execOp, Act.eval, h74, h79]; go_simp <;> simp only [hq4]) ⟨_, rfl, hk.go (by decide) (by decide), (fun d hd => by injection hd with hd; subst hd; exact ⟨tab rfl, G9.not (by decide) (by decide)⟩), fun _ _ h => h⟩
              · intro hop L a w5 hs hk hl ha keep know spec
                have h80 := know 80 (.int .i64 B0) (by kernel_rfl) rfl
                exact wpOp_call hop (wanted_none rfl) (by simp only [execOp, resolve, Act.eval, List.map_toArray, List.map_cons, List.map_nil, h80]; rfl) (hmade_any B0 w5) fun r w6 hR => by
                  obtain ⟨rfl, rfl⟩ := hR
                  exact ⟨_, rfl, _, rfl, hk.kp (Kp.refl _).alloc (by decide) (by decide), (fun d hd => by injection hd with hd; subst hd; exact ⟨tab_none rfl, ⟨fun e => by omega, fun _ => ⟨_, rfl, hk.1.size, by rw [HB0.out]; exact BC.new _ _ _⟩⟩⟩), fun _ _ h => h.kp (Kp.refl _).alloc⟩
              · intro hop L a w5 hs hk hl ha keep know spec
                have h68 := know 68 (.pointer (some ⟨b, 0, none⟩)) (by kernel_rfl) rfl
                exact wpOp_value hop (wanted_none rfl) (v := .pointer (some ⟨b, 0, none⟩)) (by simp only [execOp, Act.eval, h68]; go_simp) ⟨_, rfl, hk.go (by decide) (by decide), (fun d hd => by injection hd with hd; subst hd; exact ⟨tab rfl, G9.not (by decide) (by decide)⟩), fun _ _ h => h⟩
              · intro hop L a w5 hs hk hl ha keep know spec
                have h82 := know 82 (.pointer (some ⟨b, 0, none⟩)) (by kernel_rfl) rfl
                exact wpOp_value hop (wanted_none rfl) (v := .pointer (some ⟨b, 4, none⟩)) (by simp only [execOp, Act.eval, h82]; go_simp) ⟨_, rfl, hk.go (by decide) (by decide), (fun d hd => by injection hd with hd; subst hd; exact ⟨tab rfl, G9.not (by decide) (by decide)⟩), fun _ _ h => h⟩
              · intro hop L a w5 hs hk hl ha keep know spec
                have h83 := know 83 (.pointer (some ⟨b, 4, none⟩)) (by kernel_rfl) rfl
                have hG := spec 70 (by kernel_rfl)
                obtain ⟨v, hv⟩ : ∃ v, v = a.tmps.getD 70 undef := ⟨_, rfl⟩
                rw [← hv] at hG
                exact wpOp_skip hop (wanted_none rfl) (w' := w5.setCell ⟨b, 4, none⟩ v) (by simp only [execOp, Act.eval, h83, ← hv]; exact run_u (hk.store4 hG)) ⟨_, rfl, hk.map hG, (fun d hd => by cases hd), fun _ _ h => h.kf (hk.on_b 4 v) (fun i e => by have := hk.2.1; omega)⟩
              · intro hop L a w5 hs hk hl ha keep know spec
                have h69 := know 69 (.pointer (some ⟨b, 0, none⟩)) (by kernel_rfl) rfl
                exact wpOp_value hop (wanted_none rfl) (v := .pointer (some ⟨b, 0, none⟩)) (by simp only [execOp, Act.eval, h69]; go_simp) ⟨_, rfl, hk.go (by decide) (by decide), (fun d hd => by injection hd with hd; subst hd; exact ⟨tab rfl, G9.not (by decide) (by decide)⟩), fun _ _ h => h⟩
              · intro hop L a w5 hs hk hl ha keep know spec
                have h84 := know 84 (.pointer (some ⟨b, 0, none⟩)) (by kernel_rfl) rfl
                exact wpOp_value hop (wanted_none rfl) (v := .pointer (some ⟨b, 5, none⟩)) (by simp only [execOp, Act.eval, h84]; go_simp) ⟨_, rfl, hk.go (by decide) (by decide), (fun d hd => by injection hd with hd; subst hd; exact ⟨tab rfl, G9.not (by decide) (by decide)⟩), fun _ _ h => h⟩
              · intro hop L a w5 hs hk hl ha keep know spec
                have h85 := know 85 (.pointer (some ⟨b, 5, none⟩)) (by kernel_rfl) rfl
                have hG := spec 81 (by kernel_rfl)
                obtain ⟨v, hv⟩ : ∃ v, v = a.tmps.getD 81 undef := ⟨_, rfl⟩
                rw [← hv] at hG
                exact wpOp_skip hop (wanted_none rfl) (w' := w5.setCell ⟨b, 5, none⟩ v) (by simp only [execOp, Act.eval, h85, ← hv]; exact run_u (hk.store5 hG)) ⟨_, rfl, hk.highs hG, (fun d hd => by cases hd), fun _ _ h => h.kf (hk.on_b 5 v) (fun i e => by have := hk.2.1; omega)⟩
            · intro a' w5 e1 e2 hk keep know spec
              obtain ⟨tm, df⟩ := a'
              obtain ⟨f, hf⟩ := frame_puts (D := [68, 69, 70, 71, 72, 73, 74, 75, 76, 77, 78, 79, 80, 81, 82, 83, 84, 85]) e2 keep
              have e1' : df = [] := e1
              clear keep know spec e1 e2
              simp only [List.foldl_cons, List.foldl_nil] at hf
              subst e1'
              have he := hk.end_
              clear hk
              rw [hf]
              clear hf hem cb4 HJ hq3 hq4 HB3 HB0
              obtain ⟨m, hb', hq5, hk5, hm5, hh5⟩ := he
              have HQD := hide hq5
              have hwd := HKD0.out.size
              have HKD : Hid (Kf (fun i => i ∈ F) w w5) := hide (HKD0.out.trans hk5 fun i _ e => by have := HBF.out; rw [e]; exact this)
              have HFS : Hid (∀ i ∈ [b, m, hb'], i ∈ F ∨ w.heap.size ≤ i) := hide (fun i hi => by
                simp only [List.mem_cons, List.not_mem_nil, or_false] at hi
                rcases hi with rfl | rfl | rfl
                · exact .inl HBF.out
                · exact .inr (by omega)
                · exact .inr (by omega))
              have HMF : Hid (∀ i, i < w.heap.size → i = m → i ∈ F) := hide (fun i hi e => by omega)
              have HPH := hide (HP.empty (n := n) H4.out)
              have HNO : Hid (∀ e ∈ ([] : List HE), e.h ≠ x / UU n) := hide (fun e he => by cases he)
              have hlkn : lkP (([] : List HE).map fun e => (e.h, e.b)) (x / UU n) = none := rfl
              have hlk := hq5.2.1.lookup (P := Try.prog) Try.underlying55 Try.underlying3 (hptr_zero w5) (x / UU n)
              rw [hlkn] at hlk
              simp only [Option.map_none] at hlk
              have cb := fun j => hq5.1.cell j
              have cb0 := cb 0
              have cb4 := cb 4
              simp only [hC, List.getElem?_cons_zero, List.getElem?_cons_succ] at cb0 cb4
              obtain ⟨bs2, hbs2⟩ : ∃ bs2 : Int, bs2 = ((2 ^ (n + 1) : Nat) : Int) := ⟨_, rfl⟩
              rw [← hbs2] at cb0
              clear hq5 hk5 hm5 hh5 hwd
              obtain ⟨hq2, _⟩ := half_bits n hn hbs2
              obtain ⟨B0, hB0⟩ : ∃ B0 : Int, B0 = ((2 ^ n : Nat) : Int) := ⟨_, rfl⟩
              rw [← hB0] at hq2
              have HB0 := hide hB0
              clear cb hbs2 hB0
              go_wp2_with fail
              with_reducible refine (hmade_any B0 w5).mono ?_
              rintro e9 w2 ⟨rfl, hw2⟩
              have hk2 : Kp w5 w2 := by rw [hw2]; exact (Kp.refl _).alloc
              have hpc : BC w2 (w5).heap.size 57 (hC n false 0 0 (.map none) (.pointer none)) := by
                rw [hw2, HB0.out]; exact BC.new _ _ _
              obtain ⟨pb, hpb⟩ : ∃ pb, pb = (w5).heap.size := ⟨_, rfl⟩
              rw [← hpb] at hpc ⊢
              clear hw2
              have hpl := HQD.out.2.1.lt
              obtain ⟨w3, hup, hpm, hkm⟩ := ((HQD.out.kp hk2).2.1).put (P := Try.prog) Try.underlying55 Try.underlying3 (x := x / UU n) hlkn pb
              have hq3 := (HQD.out).add (w' := w3) (pb := pb) (by omega) HX.out.1 HX.out.2.1 HNO.out ((Kf.of hk2).trans hkm fun _ _ h => h) (HR.new n (hpc.kf hkm (by omega))) hpm
              have HQN := hide hq3
              have HKN : Hid (Kf (fun i => i ∈ F) w w3) := hide (HKD.out.trans ((Kf.of (F := fun i => i = m) hk2).trans hkm fun _ _ h => h) fun i hi h => HMF.out i hi h)
              have HFS0 := hide (fun z1 : w.heap.size ≤ pb => fun i (hi : i ∈ [b, m, hb'] ++ [pb]) => (List.mem_append.1 hi).elim (HFS.out i) (fun h => .inr (by rw [List.mem_singleton.1 h]; exact z1)))
              have HFS : Hid (∀ i ∈ [b, m, hb'] ++ [pb], i ∈ F ∨ w.heap.size ≤ i) := hide (HFS0.out (by have := HKD.out.size; omega))
              clear HFS0
              have cu4 := (HQD.out.kp hk2).1.cell 4
              have cn := fun j => HQN.out.1.cell j
              have cn5 := cn 5
              simp only [hC, List.getElem?_cons_zero, List.getElem?_cons_succ] at cu4 cn5
              have p1 := (hpc.kf hkm (by omega)).cell 1
              simp only [hC, List.getElem?_cons_zero, List.getElem?_cons_succ] at p1
              have HPH0 := hide (HPH.out.add (x / UU n) pb [pb])
              clear HPH
              have HPH := HPH0
              clear HPH0
              obtain ⟨EN, hEN⟩ : ∃ EN, EN = ([] : List HE) ++ [⟨x / UU n, pb, [], [pb]⟩] := ⟨_, rfl⟩
              have HE0 : Hid ((⟨x / UU n, pb, [], [pb]⟩ : HE) ∈ EN) := hide (by rw [hEN]; simp)
              rw [← hEN] at HPH HQN
              clear hEN
              obtain ⟨e0, he0⟩ : ∃ e0 : HE, e0 = ⟨x / UU n, pb, [], [pb]⟩ := ⟨_, rfl⟩
              rw [← he0] at HE0
              have HF1 : Hid (e0.h = x / UU n) := hide (by rw [he0])
              have HF2 : Hid (e0.b = pb) := hide (by rw [he0])
              have HQH := hide (HQN.out.2.2.1)
              have HND := hide HQN.out.2.2.2.2.1
              clear hpc hpl hk2 hkm hpm hq3 cn he0 hpb
              go_wp2_with (first | (at_mapUpdate; refine wpList_mapUpdate_run w3 rfl _ _ _ _ rfl _ _ _ rfl rfl rfl hup ?_) | fail)
              go_wp2_with fail
              with_reducible refine (HIH.out [] hb' [hb'] (x / UU n) w3 HQH.out HX.out.1 HX.out.2.1).mono ?_
              rintro e9 w6 ⟨rfl, Fh6, hr6, hin6, hk6⟩
              obtain ⟨F6, hq6, hf6, hkf6⟩ := HQN.out.highs hk6 hr6 hin6
              have HQ6 := hide hq6
              have HF6 := hide hf6
              have HK6 := hide (HKN.out.trans hkf6 fun i hi h => (HFS.out i h).elim id (fun h => absurd hi (by omega)))
              clear hr6 hin6 hk6 hq6 hf6 hkf6
              have hre := (HQ6.out.2.2.2.1 e0 HE0.out).1
              rw [HF2.out] at hre
              have HRE := hide hre
              clear hre
              go_wp2_with fail
              with_reducible refine (HIH.out e0.S pb e0.F (x % UU n) w6 HRE.out HX.out.2.2.1 HX.out.2.2.2.1).mono ?_
              rintro e9 w7 ⟨rfl, F7, hr7, hin7, hk7⟩
              obtain ⟨F8, hq8, hf8, hkf8⟩ := HQ6.out.part HE0.out hk7 (by rw [HF2.out]; exact hr7) hin7
              rw [HF1.out] at hq8
              have HRES := hide (hq8.put HB'.out HPH.out HND.out HE0.out HZI.out.1 HZI.out.2 HF1.out (fun v => by simpa using HIF.out v) rfl)
              have HSUB : Hid (∀ i ∈ F8, i ∈ F ∨ w.heap.size ≤ i) := hide (fun i hi => by
                have z1 := HKN.out.size
                have z2 := HK6.out.size
                rcases hf8 i hi with h | h
                · rcases HF6.out i h with h | h
                  · exact HFS.out i h
                  · exact .inr (by omega)
                · exact .inr (by omega))
              have HKK := hide (HK6.out.trans hkf8 fun i hi h => (HF6.out i h).elim (fun h => (HFS.out i h).elim id (fun h => absurd hi (by omega))) (fun h => absurd hi (by have := HKN.out.size; omega)))
              clear hr7 hin7 hk7 hq8 hf8 hkf8
              go_wp2
              exact bodyPost_end (v := .tuple #[]) (by simp [results, Try.results23, go_sem]) rfl ⟨rfl, F8, HRES.out, HSUB.out, HKK.out⟩
      · have HPH := hide a8
        have HQ0 : Hid (HQ 57 n w b F true le mo m hb' Hs Fh E) := hide ⟨hc, a2, a3, a4, a5, a6, a7⟩
        have c0 := hc.cell 0
        have c1 := hc.cell 1
        have c2 := hc.cell 2
        have c3 := hc.cell 3
        have f1 := hc.frozen 1
        have f2 := hc.frozen 2
        have f3 := hc.frozen 3
        simp only [hC, List.getElem?_cons_zero, List.getElem?_cons_succ] at c0 c1 c2 c3
        rw [← hbs] at c0
        by_cases e1 : x = le
        · clear hbs hb1
          have HSS := hide (insU_in hb.1 (e1 ▸ q1))
          have d1 : (x == le) = true := by simp [e1]
          clear hb hc q1 q2 q3 e1 c0 hS
          go_enter Try.func23, Try.ntmps23
          go_wp2
          exact bodyPost_ret (v := .tuple #[]) (by simp [results, Try.results23, go_sem]) rfl ⟨rfl, _, by rw [HSS.out]; exact HRR.out, fun i hi => .inl hi, Kf.refl _ _⟩
        · have d1 : (x == le) = false := by simpa using e1
          by_cases e2 : x < le
          · have d2 : decide (x < le) = true := decide_eq_true e2
            have m1 : (if mo < le then le else mo) = mo := if_neg (by have := (q3 le q1).2; omega)
            have HB' := hide (hb.low h0 h1 e2)
            have HIF := hide (low_iff q1 (fun y hy => (q3 y hy).1) e2)
            have HZI : Hid (0 ≤ le ∧ le < UU (n + 1)) := HLB
            have HC := hide ((hc.set (j := 2) (u := .int .i64 x)).set (j := 3) (u := .int .i64 mo))
            have HKF := hide (Kf.set (F := fun i => i = b) (p := ⟨b, 3, none⟩) (u := .int .i64 mo) (Kf.set (F := fun i => i = b) (p := ⟨b, 2, none⟩) (u := .int .i64 x) (Kf.refl _ w) (.inl rfl)) (.inl rfl))
            clear hb hc q1 q2 q3 e1 e2 hS a2 a3 a4 a5 a6 a7 a8
            go_enter Try.func23, Try.ntmps23
            go_wp2_with fail
            obtain ⟨W, hW⟩ : ∃ W, W = (w.setCell ⟨b, 2, none⟩ (.int .i64 x)).setCell ⟨b, 3, none⟩ (.int .i64 mo) := ⟨_, rfl⟩
            rw [← hW] at HC HKF ⊢
            clear hW
            have HQW : Hid (HQ 57 n W b F true x mo m hb' Hs Fh E) := hide (HQ0.out.cells HKF.out HC.out)
            have HKW : Hid (Kf (fun i => i ∈ F) w W) := hide (HKF.out.mono fun i _ e => e ▸ HBF.out)
            have cz := HQW.out.1.cell 0
            simp only [hC, List.getElem?_cons_zero] at cz
            rw [← hbs] at cz
            have hsp := half_in (M := UU n) (by have := UU_pos n; omega) HZI.out.1 (by have := HZI.out.2; rw [UU] at this; exact this)
            have HX := hide hsp
            clear hsp c0 c1 c2 c3 f1 f2 f3 hbs
            with_reducible refine (HHV.out le W HZI.out.1 HZI.out.2 cz).mono ?_
            rintro e9 w1 ⟨rfl, md, rfl⟩
            have HQD : Hid (HQ 57 n (W.drewN md) b F true x mo m hb' Hs Fh E) := hide (HQW.out.cells (Kf.of (F := fun i => i = b) (Kp.refl W).drewN) HQW.out.1)
            have HKD : Hid (Kf (fun i => i ∈ F) w (W.drewN md)) := hide (HKW.out.on (Kp.refl W).drewN)
            obtain ⟨Wd, hWd⟩ : ∃ Wd, Wd = W.drewN md := ⟨_, rfl⟩
            rw [← hWd] at HQD HKD ⊢
            clear hWd cz
            have HFS : Hid (∀ i ∈ F, i ∈ F ∨ w.heap.size ≤ i) := hide (fun i h => .inl h)
            have cb := fun j => HQD.out.1.cell j
            have cb0 := cb 0
            have cb4 := cb 4
            have cb5 := cb 5
            simp only [hC, List.getElem?_cons_zero, List.getElem?_cons_succ] at cb0 cb4 cb5
            obtain ⟨bs2, hbs2⟩ : ∃ bs2 : Int, bs2 = ((2 ^ (n + 1) : Nat) : Int) := ⟨_, rfl⟩
            rw [← hbs2] at cb0
            have hlk := HQD.out.2.1.lookup (P := Try.prog) Try.underlying55 Try.underlying3 (hptr_zero Wd) (le / UU n)
            obtain ⟨r, hr⟩ : ∃ r, r = lkP ((E).map fun e => (e.h, e.b)) (le / UU n) := ⟨_, rfl⟩
            rw [← hr] at hlk
            have hnd := HQD.out.2.2.2.2.1
            have hem := run_eqmap (P := Try.prog) Wd 55 _ _ (some m) Try.underlying55
            simp only [Option.isNone_some] at hem
            cases r with
            | none =>
              have HNO := hide (lkP_none.1 hr.symm)
              have HMF : Hid (∀ i, i < w.heap.size → i = m → i ∈ F) := hide (fun i hi e => by
                have : m ∈ F := by rw [HQD.out.2.2.2.2.2.1]; simp
                subst e
                exact (HFS.out _ this).elim id (fun h => absurd hi (by omega)))
              have hlkn := hr.symm
              clear hr hnd
              simp only [Option.map_none] at hlk
              obtain ⟨hq2, _⟩ := half_bits n hn hbs2
              obtain ⟨B0, hB0⟩ : ∃ B0 : Int, B0 = ((2 ^ n : Nat) : Int) := ⟨_, rfl⟩
              rw [← hB0] at hq2
              have HB0 := hide hB0
              clear cb hbs2 hB0
              go_wp2_with fail
              with_reducible refine (hmade_any B0 Wd).mono ?_
              rintro e9 w2 ⟨rfl, hw2⟩
              have hk2 : Kp Wd w2 := by rw [hw2]; exact (Kp.refl _).alloc
              have hpc : BC w2 (Wd).heap.size 57 (hC n false 0 0 (.map none) (.pointer none)) := by
                rw [hw2, HB0.out]; exact BC.new _ _ _
              obtain ⟨pb, hpb⟩ : ∃ pb, pb = (Wd).heap.size := ⟨_, rfl⟩
              rw [← hpb] at hpc ⊢
              clear hw2
              have hpl := HQD.out.2.1.lt
              obtain ⟨w3, hup, hpm, hkm⟩ := ((HQD.out.kp hk2).2.1).put (P := Try.prog) Try.underlying55 Try.underlying3 (x := le / UU n) hlkn pb
              have hq3 := (HQD.out).add (w' := w3) (pb := pb) (by omega) HX.out.1 HX.out.2.1 HNO.out ((Kf.of hk2).trans hkm fun _ _ h => h) (HR.new n (hpc.kf hkm (by omega))) hpm
              have HQN := hide hq3
              have HKN : Hid (Kf (fun i => i ∈ F) w w3) := hide (HKD.out.trans ((Kf.of (F := fun i => i = m) hk2).trans hkm fun _ _ h => h) fun i hi h => HMF.out i hi h)
              have HFS0 := hide (fun z1 : w.heap.size ≤ pb => fun i (hi : i ∈ F ++ [pb]) => (List.mem_append.1 hi).elim (HFS.out i) (fun h => .inr (by rw [List.mem_singleton.1 h]; exact z1)))
              have HFS : Hid (∀ i ∈ F ++ [pb], i ∈ F ∨ w.heap.size ≤ i) := hide (HFS0.out (by have := HKD.out.size; omega))
              clear HFS0
              have cu4 := (HQD.out.kp hk2).1.cell 4
              have cn := fun j => HQN.out.1.cell j
              have cn5 := cn 5
              simp only [hC, List.getElem?_cons_zero, List.getElem?_cons_succ] at cu4 cn5
              have p1 := (hpc.kf hkm (by omega)).cell 1
              simp only [hC, List.getElem?_cons_zero, List.getElem?_cons_succ] at p1
              have HPH0 := hide (HPH.out.add (le / UU n) pb [pb])
              clear HPH
              have HPH := HPH0
              clear HPH0
              obtain ⟨EN, hEN⟩ : ∃ EN, EN = E ++ [⟨le / UU n, pb, [], [pb]⟩] := ⟨_, rfl⟩
              have HE0 : Hid ((⟨le / UU n, pb, [], [pb]⟩ : HE) ∈ EN) := hide (by rw [hEN]; simp)
              rw [← hEN] at HPH HQN
              clear hEN
              obtain ⟨e0, he0⟩ : ∃ e0 : HE, e0 = ⟨le / UU n, pb, [], [pb]⟩ := ⟨_, rfl⟩
              rw [← he0] at HE0
              have HF1 : Hid (e0.h = le / UU n) := hide (by rw [he0])
              have HF2 : Hid (e0.b = pb) := hide (by rw [he0])
              have HQH := hide (HQN.out.2.2.1)
              have HND := hide HQN.out.2.2.2.2.1
              clear hpc hpl hk2 hkm hpm hq3 cn he0 hpb
              go_wp2_with (first | (at_mapUpdate; refine wpList_mapUpdate_run w3 rfl _ _ _ _ rfl _ _ _ rfl rfl rfl hup ?_) | fail)
              go_wp2_with fail
              with_reducible refine (HIH.out Hs hb' Fh (le / UU n) w3 HQH.out HX.out.1 HX.out.2.1).mono ?_
              rintro e9 w6 ⟨rfl, Fh6, hr6, hin6, hk6⟩
              obtain ⟨F6, hq6, hf6, hkf6⟩ := HQN.out.highs hk6 hr6 hin6
              have HQ6 := hide hq6
              have HF6 := hide hf6
              have HK6 := hide (HKN.out.trans hkf6 fun i hi h => (HFS.out i h).elim id (fun h => absurd hi (by omega)))
              clear hr6 hin6 hk6 hq6 hf6 hkf6
              have hre := (HQ6.out.2.2.2.1 e0 HE0.out).1
              rw [HF2.out] at hre
              have HRE := hide hre
              clear hre
              go_wp2_with fail
              with_reducible refine (HIH.out e0.S pb e0.F (le % UU n) w6 HRE.out HX.out.2.2.1 HX.out.2.2.2.1).mono ?_
              rintro e9 w7 ⟨rfl, F7, hr7, hin7, hk7⟩
              obtain ⟨F8, hq8, hf8, hkf8⟩ := HQ6.out.part HE0.out hk7 (by rw [HF2.out]; exact hr7) hin7
              rw [HF1.out] at hq8
              have HRES := hide (hq8.put HB'.out HPH.out HND.out HE0.out HZI.out.1 HZI.out.2 HF1.out (fun v => by simpa using HIF.out v) rfl)
              have HSUB : Hid (∀ i ∈ F8, i ∈ F ∨ w.heap.size ≤ i) := hide (fun i hi => by
                have z1 := HKN.out.size
                have z2 := HK6.out.size
                rcases hf8 i hi with h | h
                · rcases HF6.out i h with h | h
                  · exact HFS.out i h
                  · exact .inr (by omega)
                · exact .inr (by omega))
              have HKK := hide (HK6.out.trans hkf8 fun i hi h => (HF6.out i h).elim (fun h => (HFS.out i h).elim id (fun h => absurd hi (by omega))) (fun h => absurd hi (by have := HKN.out.size; omega)))
              clear hr7 hin7 hk7 hq8 hf8 hkf8
              go_wp2
              exact bodyPost_end (v := .tuple #[]) (by simp [results, Try.results23, go_sem]) rfl ⟨rfl, F8, HRES.out, HSUB.out, HKK.out⟩
            | some pb =>
              obtain ⟨e0, he0, f1, f2⟩ := (lkP_some hnd).1 hr.symm
              obtain ⟨an', le0, mo0, mv', hv', hbe, hce⟩ := (HQD.out.2.2.2.1 e0 he0).1.hb
              rw [f2] at hce
              have p1 := hce.cell 1
              simp only [hC, List.getElem?_cons_zero, List.getElem?_cons_succ] at p1
              simp only [Option.map_some] at hlk
              have HQH := hide (HQD.out.2.2.1)
              have HE0 := hide he0
              have HF1 := hide f1
              have HF2 := hide f2
              have HND := hide hnd
              have HEMP : Hid (an' = false → e0.S = []) := hide (fun h => by subst h; exact hbe.no)
              have HNE : Hid (an' = true → e0.S ≠ []) := hide (fun h => hbe.2.2.1.1 h)
              clear cb hbs2 hr hnd he0 f1 f2 hbe hce
              cases an' with
              | false =>
                go_wp2_with fail
                with_reducible refine (HIH.out Hs hb' Fh (le / UU n) Wd HQH.out HX.out.1 HX.out.2.1).mono ?_
                rintro e9 w6 ⟨rfl, Fh6, hr6, hin6, hk6⟩
                obtain ⟨F6, hq6, hf6, hkf6⟩ := HQD.out.highs hk6 hr6 hin6
                have HQ6 := hide hq6
                have HF6 := hide hf6
                have HK6 := hide (HKD.out.trans hkf6 fun i hi h => (HFS.out i h).elim id (fun h => absurd hi (by omega)))
                clear hr6 hin6 hk6 hq6 hf6 hkf6
                have hre := (HQ6.out.2.2.2.1 e0 HE0.out).1
                rw [HF2.out] at hre
                have HRE := hide hre
                clear hre
                go_wp2_with fail
                with_reducible refine (HIH.out e0.S pb e0.F (le % UU n) w6 HRE.out HX.out.2.2.1 HX.out.2.2.2.1).mono ?_
                rintro e9 w7 ⟨rfl, F7, hr7, hin7, hk7⟩
                obtain ⟨F8, hq8, hf8, hkf8⟩ := HQ6.out.part HE0.out hk7 (by rw [HF2.out]; exact hr7) hin7
                rw [HF1.out] at hq8
                have HRES := hide (hq8.put HB'.out HPH.out HND.out HE0.out HZI.out.1 HZI.out.2 HF1.out (fun v => by simpa using HIF.out v) rfl)
                have HSUB : Hid (∀ i ∈ F8, i ∈ F ∨ w.heap.size ≤ i) := hide (fun i hi => by
                  have z1 := HKD.out.size
                  have z2 := HK6.out.size
                  rcases hf8 i hi with h | h
                  · rcases HF6.out i h with h | h
                    · exact HFS.out i h
                    · exact .inr (by omega)
                  · exact .inr (by omega))
                have HKK := hide (HK6.out.trans hkf8 fun i hi h => (HF6.out i h).elim (fun h => (HFS.out i h).elim id (fun h => absurd hi (by omega))) (fun h => absurd hi (by have := HKD.out.size; omega)))
                clear hr7 hin7 hk7 hq8 hf8 hkf8
                go_wp2
                exact bodyPost_end (v := .tuple #[]) (by simp [results, Try.results23, go_sem]) rfl ⟨rfl, F8, HRES.out, HSUB.out, HKK.out⟩
              | true =>
                have hin : le / UU n ∈ Hs := (HPH.out.2 _).2 ⟨e0, HE0.out, HF1.out, HNE.out rfl⟩
                have hup : UpL Hs := by obtain ⟨_, _, _, _, _, h, _⟩ := HQH.out.hb; exact h.1
                have HHS := hide (insU_in hup hin)
                have hre := (HQD.out.2.2.2.1 e0 HE0.out).1
                rw [HF2.out] at hre
                have HRE := hide hre
                clear hre hin hup
                go_wp2_with fail
                with_reducible refine (HIH.out e0.S pb e0.F (le % UU n) Wd HRE.out HX.out.2.2.1 HX.out.2.2.2.1).mono ?_
                rintro e9 w7 ⟨rfl, F7, hr7, hin7, hk7⟩
                obtain ⟨F8, hq8, hf8, hkf8⟩ := HQD.out.part HE0.out hk7 (by rw [HF2.out]; exact hr7) hin7
                rw [HF1.out] at hq8
                have HRES := hide (hq8.put HB'.out HPH.out HND.out HE0.out HZI.out.1 HZI.out.2 HF1.out (fun v => by simpa using HIF.out v) HHS.out.symm)
                have HSUB : Hid (∀ i ∈ F8, i ∈ F ∨ w.heap.size ≤ i) := hide (fun i hi => by
                  have z1 := HKD.out.size
                  rcases hf8 i hi with h | h
                  · exact HFS.out i h
                  · exact .inr (by omega))
                have HKK := hide (HKD.out.trans hkf8 fun i hi h => (HFS.out i h).elim id (fun h => absurd hi (by omega)))
                clear hr7 hin7 hk7 hq8 hf8 hkf8
                go_wp2
                exact bodyPost_end (v := .tuple #[]) (by simp [results, Try.results23, go_sem]) rfl ⟨rfl, F8, HRES.out, HSUB.out, HKK.out⟩
          · have d2 : decide (x < le) = false := decide_eq_false e2
            obtain ⟨mo', hmo'⟩ : ∃ mo', (if mo < x then x else mo) = mo' := ⟨_, rfl⟩
            have hlx : le < x := by omega
            have HB' := hide (hb.high h0 h1 hlx hmo')
            have HIF := hide (high_iff (S := S) hlx)
            have HZI : Hid (0 ≤ x ∧ x < UU (n + 1)) := hide ⟨h0, h1⟩
            have HC := hide (hc.set (j := 3) (u := .int .i64 mo'))
            have HKF := hide (Kf.set (F := fun i => i = b) (p := ⟨b, 3, none⟩) (u := .int .i64 mo') (Kf.refl _ w) (.inl rfl))
            clear hb hc q1 q2 q3 e1 e2 hS a2 a3 a4 a5 a6 a7 a8 hlx
            go_enter Try.func23, Try.ntmps23
            go_wp2_with fail
            obtain ⟨W, hW⟩ : ∃ W, W = w.setCell ⟨b, 3, none⟩ (.int .i64 mo') := ⟨_, rfl⟩
            rw [← hW] at HC HKF ⊢
            clear hW
            have HQW : Hid (HQ 57 n W b F true le mo' m hb' Hs Fh E) := hide (HQ0.out.cells HKF.out HC.out)
            have HKW : Hid (Kf (fun i => i ∈ F) w W) := hide (HKF.out.mono fun i _ e => e ▸ HBF.out)
            have cz := HQW.out.1.cell 0
            simp only [hC, List.getElem?_cons_zero] at cz
            rw [← hbs] at cz
            have hsp := half_in (M := UU n) (by have := UU_pos n; omega) HZI.out.1 (by have := HZI.out.2; rw [UU] at this; exact this)
            have HX := hide hsp
            clear hsp c0 c1 c2 c3 f1 f2 f3 hbs
            with_reducible refine (HHV.out x W HZI.out.1 HZI.out.2 cz).mono ?_
            rintro e9 w1 ⟨rfl, md, rfl⟩
            have HQD : Hid (HQ 57 n (W.drewN md) b F true le mo' m hb' Hs Fh E) := hide (HQW.out.cells (Kf.of (F := fun i => i = b) (Kp.refl W).drewN) HQW.out.1)
            have HKD : Hid (Kf (fun i => i ∈ F) w (W.drewN md)) := hide (HKW.out.on (Kp.refl W).drewN)
            obtain ⟨Wd, hWd⟩ : ∃ Wd, Wd = W.drewN md := ⟨_, rfl⟩
            rw [← hWd] at HQD HKD ⊢
            clear hWd cz
            have HFS : Hid (∀ i ∈ F, i ∈ F ∨ w.heap.size ≤ i) := hide (fun i h => .inl h)
            have cb := fun j => HQD.out.1.cell j
            have cb0 := cb 0
            have cb4 := cb 4
            have cb5 := cb 5
            simp only [hC, List.getElem?_cons_zero, List.getElem?_cons_succ] at cb0 cb4 cb5
            obtain ⟨bs2, hbs2⟩ : ∃ bs2 : Int, bs2 = ((2 ^ (n + 1) : Nat) : Int) := ⟨_, rfl⟩
            rw [← hbs2] at cb0
            have hlk := HQD.out.2.1.lookup (P := Try.prog) Try.underlying55 Try.underlying3 (hptr_zero Wd) (x / UU n)
            obtain ⟨r, hr⟩ : ∃ r, r = lkP ((E).map fun e => (e.h, e.b)) (x / UU n) := ⟨_, rfl⟩
            rw [← hr] at hlk
            have hnd := HQD.out.2.2.2.2.1
            have hem := run_eqmap (P := Try.prog) Wd 55 _ _ (some m) Try.underlying55
            simp only [Option.isNone_some] at hem
            cases r with
            | none =>
              have HNO := hide (lkP_none.1 hr.symm)
              have HMF : Hid (∀ i, i < w.heap.size → i = m → i ∈ F) := hide (fun i hi e => by
                have : m ∈ F := by rw [HQD.out.2.2.2.2.2.1]; simp
                subst e
                exact (HFS.out _ this).elim id (fun h => absurd hi (by omega)))
              have hlkn := hr.symm
              clear hr hnd
              simp only [Option.map_none] at hlk
              obtain ⟨hq2, _⟩ := half_bits n hn hbs2
              obtain ⟨B0, hB0⟩ : ∃ B0 : Int, B0 = ((2 ^ n : Nat) : Int) := ⟨_, rfl⟩
              rw [← hB0] at hq2
              have HB0 := hide hB0
              clear cb hbs2 hB0
              go_wp2_with fail
              with_reducible refine (hmade_any B0 Wd).mono ?_
              rintro e9 w2 ⟨rfl, hw2⟩
              have hk2 : Kp Wd w2 := by rw [hw2]; exact (Kp.refl _).alloc
              have hpc : BC w2 (Wd).heap.size 57 (hC n false 0 0 (.map none) (.pointer none)) := by
                rw [hw2, HB0.out]; exact BC.new _ _ _
              obtain ⟨pb, hpb⟩ : ∃ pb, pb = (Wd).heap.size := ⟨_, rfl⟩
              rw [← hpb] at hpc ⊢
              clear hw2
              have hpl := HQD.out.2.1.lt
              obtain ⟨w3, hup, hpm, hkm⟩ := ((HQD.out.kp hk2).2.1).put (P := Try.prog) Try.underlying55 Try.underlying3 (x := x / UU n) hlkn pb
              have hq3 := (HQD.out).add (w' := w3) (pb := pb) (by omega) HX.out.1 HX.out.2.1 HNO.out ((Kf.of hk2).trans hkm fun _ _ h => h) (HR.new n (hpc.kf hkm (by omega))) hpm
              have HQN := hide hq3
              have HKN : Hid (Kf (fun i => i ∈ F) w w3) := hide (HKD.out.trans ((Kf.of (F := fun i => i = m) hk2).trans hkm fun _ _ h => h) fun i hi h => HMF.out i hi h)
              have HFS0 := hide (fun z1 : w.heap.size ≤ pb => fun i (hi : i ∈ F ++ [pb]) => (List.mem_append.1 hi).elim (HFS.out i) (fun h => .inr (by rw [List.mem_singleton.1 h]; exact z1)))
              have HFS : Hid (∀ i ∈ F ++ [pb], i ∈ F ∨ w.heap.size ≤ i) := hide (HFS0.out (by have := HKD.out.size; omega))
              clear HFS0
              have cu4 := (HQD.out.kp hk2).1.cell 4
              have cn := fun j => HQN.out.1.cell j
              have cn5 := cn 5
              simp only [hC, List.getElem?_cons_zero, List.getElem?_cons_succ] at cu4 cn5
              have p1 := (hpc.kf hkm (by omega)).cell 1
              simp only [hC, List.getElem?_cons_zero, List.getElem?_cons_succ] at p1
              have HPH0 := hide (HPH.out.add (x / UU n) pb [pb])
              clear HPH
              have HPH := HPH0
              clear HPH0
              obtain ⟨EN, hEN⟩ : ∃ EN, EN = E ++ [⟨x / UU n, pb, [], [pb]⟩] := ⟨_, rfl⟩
              have HE0 : Hid ((⟨x / UU n, pb, [], [pb]⟩ : HE) ∈ EN) := hide (by rw [hEN]; simp)
              rw [← hEN] at HPH HQN
              clear hEN
              obtain ⟨e0, he0⟩ : ∃ e0 : HE, e0 = ⟨x / UU n, pb, [], [pb]⟩ := ⟨_, rfl⟩
              rw [← he0] at HE0
              have HF1 : Hid (e0.h = x / UU n) := hide (by rw [he0])
              have HF2 : Hid (e0.b = pb) := hide (by rw [he0])
              have HQH := hide (HQN.out.2.2.1)
              have HND := hide HQN.out.2.2.2.2.1
              clear hpc hpl hk2 hkm hpm hq3 cn he0 hpb
              go_wp2_with (first | (at_mapUpdate; refine wpList_mapUpdate_run w3 rfl _ _ _ _ rfl _ _ _ rfl rfl rfl hup ?_) | fail)
              go_wp2_with fail
              with_reducible refine (HIH.out Hs hb' Fh (x / UU n) w3 HQH.out HX.out.1 HX.out.2.1).mono ?_
              rintro e9 w6 ⟨rfl, Fh6, hr6, hin6, hk6⟩
              obtain ⟨F6, hq6, hf6, hkf6⟩ := HQN.out.highs hk6 hr6 hin6
              have HQ6 := hide hq6
              have HF6 := hide hf6
              have HK6 := hide (HKN.out.trans hkf6 fun i hi h => (HFS.out i h).elim id (fun h => absurd hi (by omega)))
              clear hr6 hin6 hk6 hq6 hf6 hkf6
              have hre := (HQ6.out.2.2.2.1 e0 HE0.out).1
              rw [HF2.out] at hre
              have HRE := hide hre
              clear hre
              go_wp2_with fail
              with_reducible refine (HIH.out e0.S pb e0.F (x % UU n) w6 HRE.out HX.out.2.2.1 HX.out.2.2.2.1).mono ?_
              rintro e9 w7 ⟨rfl, F7, hr7, hin7, hk7⟩
              obtain ⟨F8, hq8, hf8, hkf8⟩ := HQ6.out.part HE0.out hk7 (by rw [HF2.out]; exact hr7) hin7
              rw [HF1.out] at hq8
              have HRES := hide (hq8.put HB'.out HPH.out HND.out HE0.out HZI.out.1 HZI.out.2 HF1.out (fun v => by simpa using HIF.out v) rfl)
              have HSUB : Hid (∀ i ∈ F8, i ∈ F ∨ w.heap.size ≤ i) := hide (fun i hi => by
                have z1 := HKN.out.size
                have z2 := HK6.out.size
                rcases hf8 i hi with h | h
                · rcases HF6.out i h with h | h
                  · exact HFS.out i h
                  · exact .inr (by omega)
                · exact .inr (by omega))
              have HKK := hide (HK6.out.trans hkf8 fun i hi h => (HF6.out i h).elim (fun h => (HFS.out i h).elim id (fun h => absurd hi (by omega))) (fun h => absurd hi (by have := HKN.out.size; omega)))
              clear hr7 hin7 hk7 hq8 hf8 hkf8
              go_wp2
              exact bodyPost_end (v := .tuple #[]) (by simp [results, Try.results23, go_sem]) rfl ⟨rfl, F8, HRES.out, HSUB.out, HKK.out⟩
            | some pb =>
              obtain ⟨e0, he0, f1, f2⟩ := (lkP_some hnd).1 hr.symm
              obtain ⟨an', le0, mo0, mv', hv', hbe, hce⟩ := (HQD.out.2.2.2.1 e0 he0).1.hb
              rw [f2] at hce
              have p1 := hce.cell 1
              simp only [hC, List.getElem?_cons_zero, List.getElem?_cons_succ] at p1
              simp only [Option.map_some] at hlk
              have HQH := hide (HQD.out.2.2.1)
              have HE0 := hide he0
              have HF1 := hide f1
              have HF2 := hide f2
              have HND := hide hnd
              have HEMP : Hid (an' = false → e0.S = []) := hide (fun h => by subst h; exact hbe.no)
              have HNE : Hid (an' = true → e0.S ≠ []) := hide (fun h => hbe.2.2.1.1 h)
              clear cb hbs2 hr hnd he0 f1 f2 hbe hce
              cases an' with
              | false =>
                go_wp2_with fail
                with_reducible refine (HIH.out Hs hb' Fh (x / UU n) Wd HQH.out HX.out.1 HX.out.2.1).mono ?_
                rintro e9 w6 ⟨rfl, Fh6, hr6, hin6, hk6⟩
                obtain ⟨F6, hq6, hf6, hkf6⟩ := HQD.out.highs hk6 hr6 hin6
                have HQ6 := hide hq6
                have HF6 := hide hf6
                have HK6 := hide (HKD.out.trans hkf6 fun i hi h => (HFS.out i h).elim id (fun h => absurd hi (by omega)))
                clear hr6 hin6 hk6 hq6 hf6 hkf6
                have hre := (HQ6.out.2.2.2.1 e0 HE0.out).1
                rw [HF2.out] at hre
                have HRE := hide hre
                clear hre
                go_wp2_with fail
                with_reducible refine (HIH.out e0.S pb e0.F (x % UU n) w6 HRE.out HX.out.2.2.1 HX.out.2.2.2.1).mono ?_
                rintro e9 w7 ⟨rfl, F7, hr7, hin7, hk7⟩
                obtain ⟨F8, hq8, hf8, hkf8⟩ := HQ6.out.part HE0.out hk7 (by rw [HF2.out]; exact hr7) hin7
                rw [HF1.out] at hq8
                have HRES := hide (hq8.put HB'.out HPH.out HND.out HE0.out HZI.out.1 HZI.out.2 HF1.out (fun v => by simpa using HIF.out v) rfl)
                have HSUB : Hid (∀ i ∈ F8, i ∈ F ∨ w.heap.size ≤ i) := hide (fun i hi => by
                  have z1 := HKD.out.size
                  have z2 := HK6.out.size
                  rcases hf8 i hi with h | h
                  · rcases HF6.out i h with h | h
                    · exact HFS.out i h
                    · exact .inr (by omega)
                  · exact .inr (by omega))
                have HKK := hide (HK6.out.trans hkf8 fun i hi h => (HF6.out i h).elim (fun h => (HFS.out i h).elim id (fun h => absurd hi (by omega))) (fun h => absurd hi (by have := HKD.out.size; omega)))
                clear hr7 hin7 hk7 hq8 hf8 hkf8
                go_wp2
                exact bodyPost_end (v := .tuple #[]) (by simp [results, Try.results23, go_sem]) rfl ⟨rfl, F8, HRES.out, HSUB.out, HKK.out⟩
              | true =>
                have hin : x / UU n ∈ Hs := (HPH.out.2 _).2 ⟨e0, HE0.out, HF1.out, HNE.out rfl⟩
                have hup : UpL Hs := by obtain ⟨_, _, _, _, _, h, _⟩ := HQH.out.hb; exact h.1
                have HHS := hide (insU_in hup hin)
                have hre := (HQD.out.2.2.2.1 e0 HE0.out).1
                rw [HF2.out] at hre
                have HRE := hide hre
                clear hre hin hup
                go_wp2_with fail
                with_reducible refine (HIH.out e0.S pb e0.F (x % UU n) Wd HRE.out HX.out.2.2.1 HX.out.2.2.2.1).mono ?_
                rintro e9 w7 ⟨rfl, F7, hr7, hin7, hk7⟩
                obtain ⟨F8, hq8, hf8, hkf8⟩ := HQD.out.part HE0.out hk7 (by rw [HF2.out]; exact hr7) hin7
                rw [HF1.out] at hq8
                have HRES := hide (hq8.put HB'.out HPH.out HND.out HE0.out HZI.out.1 HZI.out.2 HF1.out (fun v => by simpa using HIF.out v) HHS.out.symm)
                have HSUB : Hid (∀ i ∈ F8, i ∈ F ∨ w.heap.size ≤ i) := hide (fun i hi => by
                  have z1 := HKD.out.size
                  rcases hf8 i hi with h | h
                  · exact HFS.out i h
                  · exact .inr (by omega))
                have HKK := hide (HKD.out.trans hkf8 fun i hi h => (HFS.out i h).elim id (fun h => absurd hi (by omega)))
                clear hr7 hin7 hk7 hq8 hf8 hkf8
                go_wp2
                exact bodyPost_end (v := .tuple #[]) (by simp [results, Try.results23, go_sem]) rfl ⟨rfl, F8, HRES.out, HSUB.out, HKK.out⟩
end Go.Proofs.Ytmhabjjabdambaa
