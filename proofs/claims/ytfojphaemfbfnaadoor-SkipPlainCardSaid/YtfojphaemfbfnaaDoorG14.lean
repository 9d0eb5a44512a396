/-
  skip.told, skip.stack.nth: what they answer. Conditions: the stack reads as ts (SK); the place is there.
  skip.within: what it answers. Conditions: none.
-/
import Derived.Test.YtfojphaemfbfnaaDoorG11
import Derived.LaidEqlPtr
import Derived.Test.YtfojphaemfbfnaaDoorG6

namespace Go.Proofs.YtfojphaemfbfnaaDoor
open Go.ChangeShapes Go.WideShapes Go.ChangeAt Go.RowKit
set_option linter.unusedVariables false
set_option linter.unusedSimpArgs false

set_option maxRecDepth 100000 in
theorem info_tow : (Tryd.prog.info? 76).map (fun i => (i.zero, i.size, i.bytes)) = some (some (.agg #[.int .i64 0, .int .i64 0, .slice none 0 0]), 3, 40) := by kernel_rfl
/-- Two towers are not the same pointer. -/
theorem run_neq_other (w : World) {b c : Nat} {cb cc : List Value} (hne : ¬ b = c) (hb : BC w b tT cb) (hc : BC w c tT cc) : (binOp .neq 66 (.pointer (some ⟨b, 0, none⟩)) (.pointer (some ⟨c, 0, none⟩))).run Tryd.prog w = .ok (.bool true) w := by
  obtain ⟨j, hj, _, hs, _⟩ := info_parts info_tow
  have hd : ∀ d : Nat, (Op.equalIn (d + 1) 66 (.pointer (some ⟨b, 0, none⟩)) (.pointer (some ⟨c, 0, none⟩))).run Tryd.prog w = .ok false w := fun d => by
    simp [Op.equalIn, run_underlying Tryd.underlying66, sizeOf, typeInfo, hj, hs, run_sameAddr_other w (a := ⟨b, 0, none⟩) (b := ⟨c, 0, none⟩) (fun e => hne (by injection e)) hb hc]
  simp only [binOp, Op.equal, Op.maxDepth]
  simp [hd 9999]
theorem run_neq_same (w : World) (a : Addr) : (binOp .neq 66 (.pointer (some a)) (.pointer (some a))).run Tryd.prog w = .ok (.bool false) w := by
  obtain ⟨j, hj, _, hs, _⟩ := info_parts info_tow
  have hd : ∀ d : Nat, (Op.equalIn (d + 1) 66 (.pointer (some a)) (.pointer (some a))).run Tryd.prog w = .ok true w := fun d => by
    simp [Op.equalIn, run_underlying Tryd.underlying66, sizeOf, typeInfo, hj, run_sameAddr_same]
  simp only [binOp, Op.equal, Op.maxDepth]
  simp [hd 9999]
def KPost (v : Value) (w : World) (e : Ending) (w' : World) : Prop := e = .returned v ∧ Kp w w'
set_option maxRecDepth 100000 in
set_option maxHeartbeats 1000000 in
theorem skTold_any (b : Nat) (k v : Int) (w : World) (x0 : w.cell? ⟨b, 0, none⟩ = some (.int .i64 k)) (x1 : w.cell? ⟨b, 1, none⟩ = some (.int .i64 v)) :
    Calls Tryd.prog 48 #[.pointer (some ⟨b, 0, none⟩)] w (KPost (⟨0, k, v, true⟩ : An).v w) := by
  obtain ⟨W, hW⟩ : ∃ W, W = w.alloc (.cells #[.int .i64 0, .int .i64 0, .int .i64 0, .bool false] 50) := ⟨_, rfl⟩
  have k0 : Kp w W := by rw [hW]; exact (Kp.refl w).alloc
  have HA := hide (BC.new w 50 [.int .i64 0, .int .i64 k, .int .i64 v, .bool true])
  have y0 := (k0.cell x0)
  have y1 := (k0.cell x1)
  have hlt : b < w.heap.size := World.block_lt_of_cell? _ _ x0
  have n1 : ¬ b = w.heap.size := by omega
  have n2 : ¬ w.heap.size = b := by omega
  rw [hW] at y0 y1
  clear k0 hW
  go_enter Tryd.func48, Tryd.ntmps48
  go_wp2
  go_region_held3 (fun w' => w'.cell? ⟨b, 0, none⟩ = some (.int .i64 k) ∧ w'.cell? ⟨b, 1, none⟩ = some (.int .i64 v)) (first | go_keep | fail) (fail)
  go_wp2
  refine bodyPost_ret (v := (⟨0, k, v, true⟩ : An).v) ?_ ?_ ?_
  · exact results_cell_row rfl _ _ w.heap.size 50 _ (0, 0) _ rfl HA.out Tryd.underlying50 rfl info_ans4
  · rfl
  · exact ⟨rfl, by (focus ((repeat (first | (with_reducible assumption) | (with_reducible exact Kp.refl _) | (with_reducible apply Kp.drew) | (with_reducible apply Kp.drewN) | ((with_reducible apply Kp.setR); (focus (first | (with_reducible assumption) | (simp; done) | (simp; omega)))) | (with_reducible apply Kp.alloc) | ((with_reducible apply Kp.call); (with_reducible assumption)) | ((with_reducible apply Kp.app); (with_reducible assumption)))); done))⟩

def NtRel (ts : List Tw) (n : Nat) (w : World) (nv tv kv lv : Value) (wr : World) : Prop :=
  ∃ j i : Nat, j ≤ 12 ∧ i ≤ n ∧ j ≤ (tw ts i).h ∧ (∀ x, i < x → x ≤ n → (tw ts x).h ≤ j) ∧ nv = .int .i64 ((n - i : Nat) : Int) ∧ tv = .pointer (some ⟨(tw ts i).b, 0, none⟩) ∧ kv = .int .i64 ((j : Int) - 1) ∧ Kp w wr
def NjRel (ts : List Tw) (n r : Nat) (w : World) (nv tv lv : Value) (wr : World) : Prop :=
  ∃ i m : Nat, i ≤ n ∧ r < (tw ts i).h ∧ (∀ x, i < x → x ≤ n → (tw ts x).h ≤ r + 1) ∧ nv = .int .i64 ((n - i : Nat) : Int) ∧ tv = .pointer (some ⟨(tw ts i).b, 0, none⟩) ∧ lv = .pointer (some ⟨m, 0, none⟩) ∧
    w.heap.size ≤ m ∧ BC wr m tL [.pointer (lnk ts i r).1, .int .i64 ((lnk ts i r).2 : Nat)] ∧ Kp w wr
set_option maxRecDepth 100000 in
set_option maxHeartbeats 4000000 in
theorem skNth_any (s : Nat) (ts : List Tw) (n : Nat) (w : World) (B : Nat) (hsk : SK w s ts B) (hn : 0 < n) (hl : n < ts.length) :
    Calls Tryd.prog 49 #[.pointer (some ⟨s, 0, none⟩), .int .i64 (n : Int)] w (KPost (.pointer (some ⟨(tw ts n).b, 0, none⟩)) w) := by
  have HSK := hide hsk
  have c0 : w.cell? ⟨s, 0, none⟩ = some (.pointer (some ⟨(tw ts 0).b, 0, none⟩)) := hsk.stk.cell 0
  have hlen := hsk.len
  have HHEAD := hide hsk.head
  clear hsk
  go_enter Tryd.func49, Tryd.ntmps49
  go_wp2
  go_loopw [1, 5, 6, 7] (NtRel ts n w) (fun _ _ k _ _ => (intOf k + 1).toNat)
  case atStart => exact ⟨12, 0, by omega, by omega, by rw [HHEAD.out]; omega, fun x h1 h2 => (HSK.out.h12 (by omega)).2, by simp, rfl, rfl, Kp.refl _⟩
  case round =>
    obtain ⟨j, i, hj, hin, hjh, hno, rfl, rfl, rfl, hkp⟩ := hrel
    have HNO := hide hno
    have HKP := hide hkp
    clear hno hkp
    cases j with
    | zero =>
      have hi : i = n := by
        by_cases e : i < n
        · have := HNO.out n (by omega) (Nat.le_refl _)
          have := (HSK.out.h12 hl).1
          omega
        · omega
      subst hi
      go_wp2
      go_ret
      exact ⟨rfl, HKP.out⟩
    | succ r =>
      have e0 : ((r + 1 : Nat) : Int) - 1 = (r : Int) := by omega
      rw [e0]
      have HSKr := hide (HSK.out.kp HKP.out)
      have hil : i < ts.length := by omega
      have hr0 : r < (tw ts i).h := by omega
      have d2 := (HSKr.out.f.tower hil).2.2
      obtain ⟨l0, l1⟩ := HSKr.out.f.link hil hr0
      obtain ⟨x0, hx0⟩ : ∃ x, x = (lnk ts i r).1 := ⟨_, rfl⟩
      obtain ⟨y0, hy0⟩ : ∃ y, y = (lnk ts i r).2 := ⟨_, rfl⟩
      rw [← hx0] at l0
      rw [← hy0] at l1
      have HX0 := hide (And.intro hx0 hy0)
      clear hx0 hy0 e0
      go_wp2
      go_loopw [1, 5, 7] (NjRel ts n r w) (fun nv _ _ _ => (intOf nv).toNat)
      case atStart => exact ⟨i, wr.heap.size, hin, hr0, HNO.out, rfl, rfl, rfl, HKP.out.size, by rw [← HX0.out.1, ← HX0.out.2]; exact BC.new _ _ _, HKP.out.alloc⟩
      case round =>
        clear HNO HKP HSKr d2 l0 l1 HX0 hil hr0 hin hjh
        obtain ⟨i, m, hin, hri, hno, rfl, rfl, rfl, hm, hbm, hkp⟩ := hrel
        have HNO := hide hno
        have HKP := hide hkp
        have HSKr := hide (HSK.out.kp hkp)
        have hil : i < ts.length := by omega
        have n0 := hbm.cell 0
        have n1 := hbm.cell 1
        simp only [List.getElem?_cons_zero, List.getElem?_cons_succ] at n0 n1
        obtain ⟨f1, f2, f3, f4⟩ := nj_facts ts i r hil
        obtain ⟨w1, w2, w3⟩ := lnk_wide ts r hil
        have HF3 := hide f3
        have d2 := (HSKr.out.f.tower hil).2.2
        clear hno hkp f3 hbm
        obtain ⟨q, hq⟩ : ∃ q, q = nj ts i r := ⟨_, rfl⟩
        have HQ := hide hq
        obtain ⟨y, hy⟩ : ∃ y, y = (lnk ts i r).2 := ⟨_, rfl⟩
        rw [← hy] at n1 w1 w2 w3
        rw [← hq] at f1 f2 f4 w3
        obtain ⟨N, hN⟩ : ∃ N, N = n - i := ⟨_, rfl⟩
        rw [← hN]
        by_cases hnj : q < ts.length
        · have hp : (lnk ts i r).1 = some ⟨(tw ts q).b, 0, none⟩ := by unfold lnk; rw [← hq, if_pos hnj]
          rw [hp] at n0
          have hw := w3 hnj
          have hr2 := f4 hnj
          by_cases hk : q ≤ n
          · obtain ⟨N2, hN2⟩ : ∃ N2, N2 = n - q := ⟨_, rfl⟩
            have s1 : IntKind.i64.wrap ((N : Int) - (y : Int)) = (N2 : Int) := by rw [IntWalk.i64_in _ (by omega)]; omega
            have d1 : decide (y ≤ N) = true := decide_eq_true (by omega)
            have e2 := (HSKr.out.f.tower hnj).2.2
            obtain ⟨l0, l1⟩ := HSKr.out.f.link hnj hr2
            obtain ⟨x0, hx0⟩ : ∃ x, x = (lnk ts q r).1 := ⟨_, rfl⟩
            obtain ⟨y0, hy0⟩ : ∃ y, y = (lnk ts q r).2 := ⟨_, rfl⟩
            rw [← hx0] at l0
            rw [← hy0] at l1
            have HX0 := hide (And.intro hx0 hy0)
            have HN2 := hide hN2
            have hlt1 : N2 < N := by omega
            have blt1 := (HSKr.out.f.tow _ hnj).lt
            have blt2 := (HSKr.out.f.lkb _ hnj).lt
            have HM := hide (show w.heap.size ≤ wr.heap.size from HKP.out.size)
            clear hx0 hy0 hN hN2 hq hp hy w1 w2 w3 hw f2 f4 d2
            go_wp2
            exact ⟨⟨q, wr.heap.size, hk, hr2, fun x a1 a2 => HNO.out x (by omega) a2, by rw [HN2.out], rfl, rfl, HM.out, by rw [← HX0.out.1, ← HX0.out.2]; exact BC.new _ _ _, HKP.out.alloc⟩, by simp [intOf]; omega⟩
          · have d1 : decide (y ≤ N) = false := decide_eq_false (by omega)
            have HN3 : Hid (∀ x, i < x → x ≤ n → (tw ts x).h ≤ r) := hide (fun x a1 a2 => HF3.out x a1 (by rw [← HQ.out]; omega))
            have HNN := hide hN
            clear hN hq hp hy w1 w2 w3 hw f2 f4 d2
            have s5 : IntKind.i64.wrap ((r : Int) - 1) = (r : Int) - 1 := IntWalk.i64_in _ (by omega)
            go_wp2
            exact ⟨⟨r, i, by omega, hin, by omega, HN3.out, by rw [HNN.out], rfl, rfl, HKP.out⟩, by simp [intOf] <;> omega⟩
        · have hp : (lnk ts i r).1 = none := by unfold lnk; rw [← hq, if_neg hnj]
          rw [hp] at n0
          have HN3 : Hid (∀ x, i < x → x ≤ n → (tw ts x).h ≤ r) := hide (fun x a1 a2 => HF3.out x a1 (by rw [← HQ.out]; omega))
          have HNN := hide hN
          clear hN hq hp hy w1 w2 w3 f2 f4 d2
          have s5 : IntKind.i64.wrap ((r : Int) - 1) = (r : Int) - 1 := IntWalk.i64_in _ (by omega)
          go_wp2
          exact ⟨⟨r, i, by omega, hin, by omega, HN3.out, by rw [HNN.out], rfl, rfl, HKP.out⟩, by simp [intOf] <;> omega⟩
end Go.Proofs.YtfojphaemfbfnaaDoor
namespace Go.Proofs.YtfojphaemfbfnaaDoor
open Go.ChangeShapes Go.WideShapes Go.ChangeAt Go.RowKit
set_option linter.unusedVariables false
set_option linter.unusedSimpArgs false

theorem sk_within_any (n lo hi : Int) (w : World) :
    Calls Tryd.prog 31 #[.int .i64 n, .int .i64 lo, .int .i64 hi] w fun e w' => e = .returned (.bool (btw n lo hi)) ∧ w = w' := by
  by_cases h1 : lo ≤ n
  · by_cases h2 : n ≤ hi
    · go_enter Tryd.func31, Tryd.ntmps31
      go_wp2
      go_ret
      exact ⟨by simp [btw]; omega, rfl⟩
    · go_enter Tryd.func31, Tryd.ntmps31
      go_wp2
      go_ret
      exact ⟨by simp [btw]; omega, rfl⟩
  · go_enter Tryd.func31, Tryd.ntmps31
    go_wp2
    go_ret
    exact ⟨by simp [btw]; omega, rfl⟩
theorem sk_within_to (n lo hi : Int) (b : Bool) (w : World) (h : btw n lo hi = b) :
    Calls Tryd.prog 31 #[.int .i64 n, .int .i64 lo, .int .i64 hi] w fun e w' => e = .returned (.bool b) ∧ w = w' := by
  have := sk_within_any n lo hi w
  rwa [h] at this
end Go.Proofs.YtfojphaemfbfnaaDoor
