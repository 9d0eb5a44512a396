/-
  slices.swapRangeCmpFunc, rotateCmpFunc at spots: what they leave. Conditions: the row is the call's own (OW).
-/
import Derived.Test.YthbapflabjogkaaHeapOneM26

namespace Go.Proofs.Ythbapflabjogkaa
open Go.ChangeShapes Go.WideShapes Go.ChangeAt Go.RowKit
set_option linter.unusedVariables false
set_option linter.unusedSimpArgs false

/-- The row reads as l' behind the call. -/
def SlPost (B : Nat) (e : TypeId) (g N c : Nat) (l' : List IP) (w : World) (en : Ending) (w' : World) : Prop :=
  en = .returned (.tuple #[]) ∧ OW w' B e ePair (.slice (some ⟨g, 0, none⟩) N c) l' ∧ Kf (fun i => i = g) w w'
def SwR (Bk : Nat) (e : TypeId) (g N c : Nat) (P A M B Q : List IP) (w : World) (iv : Value) (wr : World) : Prop :=
  ∃ i : Nat, iv = .int .i64 (i : Int) ∧ i ≤ A.length ∧ OW wr Bk e ePair (.slice (some ⟨g, 0, none⟩) N c) (P ++ (B.take i ++ A.drop i) ++ M ++ (A.take i ++ B.drop i) ++ Q) ∧ Kf (fun k => k = g) w wr
set_option maxRecDepth 100000 in
set_option maxHeartbeats 8000000 in
theorem swapRange_any (P A M Bl Q : List IP) (lo hi n N c g B : Nat) (fv : Value) (w : World) (ha : lo = P.length) (hb : hi = P.length + A.length + M.length) (hAB : A.length = Bl.length) (hnA : n = A.length) (hn : N ≤ 1000)
    (ho : OW w B 37 ePair (.slice (some ⟨g, 0, none⟩) N c) (P ++ A ++ M ++ Bl ++ Q)) :
    Calls Try.prog 48 #[.slice (some ⟨g, 0, none⟩) N c, .int .i64 (lo : Int), .int .i64 (hi : Int), .int .i64 (n : Int), fv] w (SlPost B 37 g N c (P ++ Bl ++ M ++ A ++ Q) w) := by
  have hNl := ho.len
  have HREL : Hid (SwR B 37 g N c P A M Bl Q w (.int .i64 0) w) := hide ⟨0, rfl, by omega, by simpa using ho, Kf.refl _ _⟩
  have HA := hide ha
  have HB := hide hb
  have HAB := hide hAB
  have HNA := hide hnA
  have HN : Hid (N = P.length + A.length + M.length + Bl.length + Q.length) := hide (by rw [hNl]; simp only [List.length_append])
  clear ho hNl ha hb hAB hnA
  go_enter Try.func48, Try.ntmps48
  go_wp2
  go_loopw [10] (SwR B 37 g N c P A M Bl Q w) (fun iv _ => n - (intOf iv).toNat)
  case atStart => exact HREL.out
  case round =>
    clear HREL
    obtain ⟨i, rfl, hin, ho, hkf⟩ := hrel
    have HO := hide ho
    have HKF := hide hkf
    clear ho hkf
    by_cases hlt : i < n
    · have d0 : decide ((i : Int) < (n : Int)) = true := by simp; omega
      obtain ⟨x, hx⟩ : ∃ x, x = A[i]'(by have := HNA.out; omega) := ⟨_, rfl⟩
      obtain ⟨y, hy⟩ : ∃ x, x = Bl[i]'(by have := HNA.out; have := HAB.out; omega) := ⟨_, rfl⟩
      obtain ⟨AI, hAI⟩ : ∃ AI, AI = lo + i := ⟨_, rfl⟩
      obtain ⟨BI, hBI⟩ : ∃ AI, AI = hi + i := ⟨_, rfl⟩
      have hiA : i < A.length := by have := HNA.out; omega
      have hiB : i < Bl.length := by have := HAB.out; omega
      have hAI2 : AI = P.length + i := by have := HA.out; omega
      have hBI2 : BI = P.length + A.length + M.length + i := by have := HB.out; omega
      have hat := swr_at P A M Bl Q i hiA hiB HAB.out AI BI hAI2 hBI2
      rw [← hx, ← hy] at hat
      have hset := swr_set P A M Bl Q i hiA hiB HAB.out AI BI hAI2 hBI2
      rw [← hx, ← hy] at hset
      obtain ⟨hgx, hgz⟩ := hat
      have HSET := hide hset
      have bA : AI < N := by have := HN.out; omega
      have bB : BI < N := by have := HN.out; omega
      have hai : IntKind.i64.wrap ((lo : Int) + (i : Int)) = (AI : Int) := by rw [IntWalk.i64_in _ (by omega)]; omega
      have hbi : IntKind.i64.wrap ((hi : Int) + (i : Int)) = (BI : Int) := by rw [IntWalk.i64_in _ (by omega)]; omega
      have HIA := hide hiA
      have hi9 : i < 1000 := by omega
      have HO5 := HO
      obtain ⟨w5, rfl⟩ : ∃ x, x = wr := ⟨_, rfl⟩
      clear hx hy hAI hBI hiA hiB hAI2 hBI2 hset
      go_wp2_with fail
      obtain ⟨W0, hW0⟩ : ∃ W0, W0 = w5.drew := ⟨_, rfl⟩
      have ho0 : OW W0 B 37 ePair (.slice (some ⟨g, 0, none⟩) N c) (P ++ (Bl.take i ++ A.drop i) ++ M ++ (A.take i ++ Bl.drop i) ++ Q) := by rw [hW0]; exact (HO5.out).drew
      have hof : Kf (fun k => k = g) w5 W0 := by rw [hW0]; exact Kf.of (Kp.refl _).drew
      have ho1 := ho0.setPair AI (by have := ho0.len; omega) y
      have LDAI := ld_pair ho0 (k := AI) (x := x) (by assumption)
      have LDBI := ld_pair ho0 (k := BI) (x := y) (by assumption)
      have ST1 := st_pair ho0 (k := AI) (by have := ho0.len; omega) y
      have ST2 := st_pair ho1 (k := BI) (by have := ho1.len; omega) x
      have RAI := ix_pair N c g AI (by omega)
      have RBI := ix_pair N c g BI (by omega)
      have HSW := hide (ho0.sw (i := AI) (j := BI) (by have := ho0.len; omega) (by have := ho0.len; omega) x y)
      have HKW := hide (Kf.sw (Kf.sw hof (F := fun k => k = g) rfl AI y) (F := fun k => k = g) rfl BI x)
      refine wp_region_tab (by kernel_rfl) [(16, .slice (some ⟨g, 0, none⟩) N c), (17, .int .i64 (lo : Int)), (18, .int .i64 (i : Int)), (19, .int .i64 (AI : Int)), (20, .slice (some ⟨g, 0, none⟩) N c), (21, .int .i64 (hi : Int)), (22, .int .i64 (i : Int)), (23, .int .i64 (BI : Int)), (24, .slice (some ⟨g, 0, none⟩) N c), (25, .int .i64 (hi : Int)), (26, .int .i64 (i : Int)), (27, .int .i64 (BI : Int)), (28, .pointer (some ⟨g, BI * 2, none⟩)), (29, (pv y)), (30, .slice (some ⟨g, 0, none⟩) N c), (31, .int .i64 (lo : Int)), (32, .int .i64 (i : Int)), (33, .int .i64 (AI : Int)), (34, .pointer (some ⟨g, AI * 2, none⟩)), (35, (pv x)), (36, .pointer (some ⟨g, AI * 2, none⟩)), (37, .pointer (some ⟨g, BI * 2, none⟩))] (fun _ _ _ => True) (JS W0 (swW1 W0 g AI y) (swW1 (swW1 W0 g AI y) g BI x) 21 23 13 19) (by rw [hW0]; exact JS.start (by decide) (by decide)) (by kernel_rfl) (by kernel_rfl) ?_ ?_
      · refine ⟨?_, ?_, ?_, ?_, ?_, ?_, ?_, ?_, ?_, ?_, ?_, ?_, ?_, ?_, ?_, ?_, ?_, ?_, ?_, ?_, ?_, ?_, ?_, ?_, trivial⟩
        · intro hop L a w5 hs hk hl ha keep know spec
          have h0 := keep 0 (.slice (some ⟨g, 0, none⟩) N c) (by kernel_rfl) rfl
          exact wpOp_value hop (wanted_none rfl) (v := .slice (some ⟨g, 0, none⟩) N c) (by simp only [execOp, Act.eval, h0]; rfl) ⟨_, rfl, hk.go (by decide) (by decide), (fun d hd => by injection hd with hd; subst hd; exact ⟨tab rfl, trivial⟩), fun _ _ h => h⟩
        · intro hop L a w5 hs hk hl ha keep know spec
          have h1 := keep 1 (.int .i64 (lo : Int)) (by kernel_rfl) rfl
          exact wpOp_value hop (wanted_none rfl) (v := .int .i64 (lo : Int)) (by simp only [execOp, Act.eval, h1]; rfl) ⟨_, rfl, hk.go (by decide) (by decide), (fun d hd => by injection hd with hd; subst hd; exact ⟨tab rfl, trivial⟩), fun _ _ h => h⟩
        · intro hop L a w5 hs hk hl ha keep know spec
          have h10 := keep 10 (.int .i64 (i : Int)) (by kernel_rfl) rfl
          exact wpOp_value hop (wanted_none rfl) (v := .int .i64 (i : Int)) (by simp only [execOp, Act.eval, h10]; rfl) ⟨_, rfl, hk.go (by decide) (by decide), (fun d hd => by injection hd with hd; subst hd; exact ⟨tab rfl, trivial⟩), fun _ _ h => h⟩
        · intro hop L a w5 hs hk hl ha keep know spec
          have h17 := know 17 (.int .i64 (lo : Int)) (by kernel_rfl) rfl
          have h18 := know 18 (.int .i64 (i : Int)) (by kernel_rfl) rfl
          exact wpOp_value hop (wanted_none rfl) (v := .int .i64 (AI : Int)) (by simp only [execOp, Act.eval, h17, h18]; go_simp; done) ⟨_, rfl, hk.go (by decide) (by decide), (fun d hd => by injection hd with hd; subst hd; exact ⟨tab rfl, trivial⟩), fun _ _ h => h⟩
        · intro hop L a w5 hs hk hl ha keep know spec
          have h0 := keep 0 (.slice (some ⟨g, 0, none⟩) N c) (by kernel_rfl) rfl
          exact wpOp_value hop (wanted_none rfl) (v := .slice (some ⟨g, 0, none⟩) N c) (by simp only [execOp, Act.eval, h0]; rfl) ⟨_, rfl, hk.go (by decide) (by decide), (fun d hd => by injection hd with hd; subst hd; exact ⟨tab rfl, trivial⟩), fun _ _ h => h⟩
        · intro hop L a w5 hs hk hl ha keep know spec
          have h2 := keep 2 (.int .i64 (hi : Int)) (by kernel_rfl) rfl
          exact wpOp_value hop (wanted_none rfl) (v := .int .i64 (hi : Int)) (by simp only [execOp, Act.eval, h2]; rfl) ⟨_, rfl, hk.go (by decide) (by decide), (fun d hd => by injection hd with hd; subst hd; exact ⟨tab rfl, trivial⟩), fun _ _ h => h⟩
        · intro hop L a w5 hs hk hl ha keep know spec
          have h10 := keep 10 (.int .i64 (i : Int)) (by kernel_rfl) rfl
          exact wpOp_value hop (wanted_none rfl) (v := .int .i64 (i : Int)) (by simp only [execOp, Act.eval, h10]; rfl) ⟨_, rfl, hk.go (by decide) (by decide), (fun d hd => by injection hd with hd; subst hd; exact ⟨tab rfl, trivial⟩), fun _ _ h => h⟩
        · intro hop L a w5 hs hk hl ha keep know spec
          have h21 := know 21 (.int .i64 (hi : Int)) (by kernel_rfl) rfl
          have h22 := know 22 (.int .i64 (i : Int)) (by kernel_rfl) rfl
          exact wpOp_value hop (wanted_none rfl) (v := .int .i64 (BI : Int)) (by simp only [execOp, Act.eval, h21, h22]; go_simp; done) ⟨_, rfl, hk.go (by decide) (by decide), (fun d hd => by injection hd with hd; subst hd; exact ⟨tab rfl, trivial⟩), fun _ _ h => h⟩
        · intro hop L a w5 hs hk hl ha keep know spec
          have h0 := keep 0 (.slice (some ⟨g, 0, none⟩) N c) (by kernel_rfl) rfl
          exact wpOp_value hop (wanted_none rfl) (v := .slice (some ⟨g, 0, none⟩) N c) (by simp only [execOp, Act.eval, h0]; rfl) ⟨_, rfl, hk.go (by decide) (by decide), (fun d hd => by injection hd with hd; subst hd; exact ⟨tab rfl, trivial⟩), fun _ _ h => h⟩
        · intro hop L a w5 hs hk hl ha keep know spec
          have h2 := keep 2 (.int .i64 (hi : Int)) (by kernel_rfl) rfl
          exact wpOp_value hop (wanted_none rfl) (v := .int .i64 (hi : Int)) (by simp only [execOp, Act.eval, h2]; rfl) ⟨_, rfl, hk.go (by decide) (by decide), (fun d hd => by injection hd with hd; subst hd; exact ⟨tab rfl, trivial⟩), fun _ _ h => h⟩
        · intro hop L a w5 hs hk hl ha keep know spec
          have h10 := keep 10 (.int .i64 (i : Int)) (by kernel_rfl) rfl
          exact wpOp_value hop (wanted_none rfl) (v := .int .i64 (i : Int)) (by simp only [execOp, Act.eval, h10]; rfl) ⟨_, rfl, hk.go (by decide) (by decide), (fun d hd => by injection hd with hd; subst hd; exact ⟨tab rfl, trivial⟩), fun _ _ h => h⟩
        · intro hop L a w5 hs hk hl ha keep know spec
          have h25 := know 25 (.int .i64 (hi : Int)) (by kernel_rfl) rfl
          have h26 := know 26 (.int .i64 (i : Int)) (by kernel_rfl) rfl
          exact wpOp_value hop (wanted_none rfl) (v := .int .i64 (BI : Int)) (by simp only [execOp, Act.eval, h25, h26]; go_simp; done) ⟨_, rfl, hk.go (by decide) (by decide), (fun d hd => by injection hd with hd; subst hd; exact ⟨tab rfl, trivial⟩), fun _ _ h => h⟩
        · intro hop L a w5 hs hk hl ha keep know spec
          have h24 := know 24 (.slice (some ⟨g, 0, none⟩) N c) (by kernel_rfl) rfl
          have h27 := know 27 (.int .i64 (BI : Int)) (by kernel_rfl) rfl
          exact wpOp_value hop (wanted_none rfl) (v := .pointer (some ⟨g, BI * 2, none⟩)) (by simp only [execOp, Act.eval, h24, h27]; exact run_v (RBI w5)) ⟨_, rfl, hk.go (by decide) (by decide), (fun d hd => by injection hd with hd; subst hd; exact ⟨tab rfl, trivial⟩), fun _ _ h => h⟩
        · intro hop L a w5 hs hk hl ha keep know spec
          have h28 := know 28 (.pointer (some ⟨g, BI * 2, none⟩)) (by kernel_rfl) rfl
          have e5 := hk.ld1 hl
          subst e5
          exact wpOp_value hop (wanted_none rfl) (v := (pv y)) (by simp only [execOp, Act.eval, h28]; exact run_v LDBI) ⟨_, rfl, hk.go (by decide) (by decide), (fun d hd => by injection hd with hd; subst hd; exact ⟨tab rfl, trivial⟩), fun _ _ h => h⟩
        · intro hop L a w5 hs hk hl ha keep know spec
          have h0 := keep 0 (.slice (some ⟨g, 0, none⟩) N c) (by kernel_rfl) rfl
          exact wpOp_value hop (wanted_none rfl) (v := .slice (some ⟨g, 0, none⟩) N c) (by simp only [execOp, Act.eval, h0]; rfl) ⟨_, rfl, hk.go (by decide) (by decide), (fun d hd => by injection hd with hd; subst hd; exact ⟨tab rfl, trivial⟩), fun _ _ h => h⟩
        · intro hop L a w5 hs hk hl ha keep know spec
          have h1 := keep 1 (.int .i64 (lo : Int)) (by kernel_rfl) rfl
          exact wpOp_value hop (wanted_none rfl) (v := .int .i64 (lo : Int)) (by simp only [execOp, Act.eval, h1]; rfl) ⟨_, rfl, hk.go (by decide) (by decide), (fun d hd => by injection hd with hd; subst hd; exact ⟨tab rfl, trivial⟩), fun _ _ h => h⟩
        · intro hop L a w5 hs hk hl ha keep know spec
          have h10 := keep 10 (.int .i64 (i : Int)) (by kernel_rfl) rfl
          exact wpOp_value hop (wanted_none rfl) (v := .int .i64 (i : Int)) (by simp only [execOp, Act.eval, h10]; rfl) ⟨_, rfl, hk.go (by decide) (by decide), (fun d hd => by injection hd with hd; subst hd; exact ⟨tab rfl, trivial⟩), fun _ _ h => h⟩
        · intro hop L a w5 hs hk hl ha keep know spec
          have h31 := know 31 (.int .i64 (lo : Int)) (by kernel_rfl) rfl
          have h32 := know 32 (.int .i64 (i : Int)) (by kernel_rfl) rfl
          exact wpOp_value hop (wanted_none rfl) (v := .int .i64 (AI : Int)) (by simp only [execOp, Act.eval, h31, h32]; go_simp; done) ⟨_, rfl, hk.go (by decide) (by decide), (fun d hd => by injection hd with hd; subst hd; exact ⟨tab rfl, trivial⟩), fun _ _ h => h⟩
        · intro hop L a w5 hs hk hl ha keep know spec
          have h30 := know 30 (.slice (some ⟨g, 0, none⟩) N c) (by kernel_rfl) rfl
          have h33 := know 33 (.int .i64 (AI : Int)) (by kernel_rfl) rfl
          exact wpOp_value hop (wanted_none rfl) (v := .pointer (some ⟨g, AI * 2, none⟩)) (by simp only [execOp, Act.eval, h30, h33]; exact run_v (RAI w5)) ⟨_, rfl, hk.go (by decide) (by decide), (fun d hd => by injection hd with hd; subst hd; exact ⟨tab rfl, trivial⟩), fun _ _ h => h⟩
        · intro hop L a w5 hs hk hl ha keep know spec
          have h34 := know 34 (.pointer (some ⟨g, AI * 2, none⟩)) (by kernel_rfl) rfl
          have e5 := hk.ld2 hl
          subst e5
          exact wpOp_value hop (wanted_none rfl) (v := (pv x)) (by simp only [execOp, Act.eval, h34]; exact run_v LDAI) ⟨_, rfl, hk.go (by decide) (by decide), (fun d hd => by injection hd with hd; subst hd; exact ⟨tab rfl, trivial⟩), fun _ _ h => h⟩
        · intro hop L a w5 hs hk hl ha keep know spec
          have h16 := know 16 (.slice (some ⟨g, 0, none⟩) N c) (by kernel_rfl) rfl
          have h19 := know 19 (.int .i64 (AI : Int)) (by kernel_rfl) rfl
          exact wpOp_value hop (wanted_none rfl) (v := .pointer (some ⟨g, AI * 2, none⟩)) (by simp only [execOp, Act.eval, h16, h19]; exact run_v (RAI w5)) ⟨_, rfl, hk.go (by decide) (by decide), (fun d hd => by injection hd with hd; subst hd; exact ⟨tab rfl, trivial⟩), fun _ _ h => h⟩
        · intro hop L a w5 hs hk hl ha keep know spec
          have h36 := know 36 (.pointer (some ⟨g, AI * 2, none⟩)) (by kernel_rfl) rfl
          have h29 := know 29 ((pv y)) (by kernel_rfl) rfl
          obtain ⟨e5, hk2⟩ := hk.st1 hl (after_done ha (k := 13) (by kernel_rfl)) (after_done ha (k := 19) (by kernel_rfl)) (by decide)
          subst e5
          exact wpOp_skip hop (wanted_none rfl) (by simp only [execOp, Act.eval, h36, h29]; exact run_u ST1) ⟨_, rfl, hk2, (fun d hd => by cases hd), fun _ _ h => h⟩
        · intro hop L a w5 hs hk hl ha keep know spec
          have h20 := know 20 (.slice (some ⟨g, 0, none⟩) N c) (by kernel_rfl) rfl
          have h23 := know 23 (.int .i64 (BI : Int)) (by kernel_rfl) rfl
          exact wpOp_value hop (wanted_none rfl) (v := .pointer (some ⟨g, BI * 2, none⟩)) (by simp only [execOp, Act.eval, h20, h23]; exact run_v (RBI w5)) ⟨_, rfl, hk.go (by decide) (by decide), (fun d hd => by injection hd with hd; subst hd; exact ⟨tab rfl, trivial⟩), fun _ _ h => h⟩
        · intro hop L a w5 hs hk hl ha keep know spec
          have h37 := know 37 (.pointer (some ⟨g, BI * 2, none⟩)) (by kernel_rfl) rfl
          have h35 := know 35 ((pv x)) (by kernel_rfl) rfl
          obtain ⟨e5, hk2⟩ := hk.st2 hl (after_done ha (k := 21) (by kernel_rfl))
          subst e5
          exact wpOp_skip hop (wanted_none rfl) (by simp only [execOp, Act.eval, h37, h35]; exact run_u ST2) ⟨_, rfl, hk2, (fun d hd => by cases hd), fun _ _ h => h⟩
      · intro a' w6 e1 e2 hk keep know spec
        obtain ⟨tm, df⟩ := a'
        obtain ⟨f, hf⟩ := frame_puts (D := [16, 17, 18, 19, 20, 21, 22, 23, 24, 25, 26, 27, 28, 29, 30, 31, 32, 33, 34, 35, 36, 37]) e2 keep
        have e1' : df = [] := e1
        have e6 := hk.done (n := 24) (by decide) (by decide)
        clear keep know spec e1 e2 hk
        simp only [List.foldl_cons, List.foldl_nil] at hf
        subst e1'
        subst e6
        rw [hf]
        clear hf
        clear LDAI LDBI ST1 ST2 RAI RBI ho0 ho1 hof hgx hgz hW0
        go_wp2
        go_roundw
        case rel => exact ⟨i + 1, by go_num, HIA.out, by have h := HSW.out; rw [HSET.out] at h; exact h, HKF.out.trans HKW.out (fun _ _ h => h)⟩
        case measure => simp [intOf]; omega
    · have d0 : decide ((i : Int) < (n : Int)) = false := by simp; omega
      have hT : Hid (P ++ (Bl.take i ++ A.drop i) ++ M ++ (A.take i ++ Bl.drop i) ++ Q = P ++ Bl ++ M ++ A ++ Q) := hide (by
        rw [List.take_of_length_le (by have := HNA.out; have := HAB.out; omega), List.drop_of_length_le (by have := HNA.out; omega), List.take_of_length_le (by have := HNA.out; omega), List.drop_of_length_le (by have := HNA.out; have := HAB.out; omega)]
        simp only [List.append_nil])
      go_wp2
      exact bodyPost_ret (v := .tuple #[]) (by simp [results, Try.results48, go_sem]) rfl ⟨rfl, by have h := HO.out; rw [hT.out] at h; exact h, HKF.out⟩
end Go.Proofs.Ythbapflabjogkaa
