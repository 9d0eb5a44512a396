/-
  An argument that is a slice of slices of deeds, or a deed, opened. Conditions: none.
  hedgref.HandsRight: it answers what hands.right answers. Conditions: the lists read as they are named (RD, RDS).
  hedgkeep.HandsFree: it answers true. Conditions: the lists read as they are named (RD, RDS).
  hedgkeep.HandsFree: THE STATEMENT: for every input it answers true. Conditions: none.
-/
import Derived.Test.YtoihdnekkgpcoaaG1
import Derived.Test.YtoihdnekkgpcoaaG6
import Derived.Test.YtoihdnekkgpcoaaG5
import Derived.Test.YtoihdnekkgpcoaaG15
import Derived.Test.YtoihdnekkgpcoaaG16
import Derived.Deep.DeepCutAuto
import Derived.Test.YtoihdnekkgpcoaaG4

namespace Go.Proofs.Ytoihdnekkgpcoaa
open Go.ChangeShapes Go.WideShapes Go.ChangeAt Go.RowKit Go.Deep
set_option linter.unusedVariables false
set_option linter.unusedSimpArgs false

theorem RD.dd {w : World} {v : Value} {l : List IP} (h : RD w ePair v l) : RD w eDeed v (l.map fun p => (⟨p.1, p.2⟩ : Dd)) := by
  obtain ⟨A, c, rfl, h1, h2, h3, h4⟩ := h
  refine ⟨A, c, by simp, by simpa using h1, h2, h3, fun h0 => ?_⟩
  simp only [List.length_map] at h0
  obtain ⟨b, o, rfl, hb, hc⟩ := h4 h0
  refine ⟨b, o, rfl, hb, fun k hk j hj => ?_⟩
  simp only [List.length_map] at hk
  have := hc k hk j hj
  simp only [List.getElem_map]
  exact this
section
variable {H : Type} {enc : TypeId × Value → H} {P : Program} {w : World} {base : Nat} {spare : Nat → Bool} {held : Bool}
theorem rd_deeds {t e d : TypeId} {f0 f1 : Field} {fuel : Nat} {cs : List Value} {x : DataW H × List MemPlace} (ht : P.underlying t = some (.slice e)) (hC1 : P.cellsOf e = 1) (he : P.underlying e = some (.slice d)) (hd : P.underlying d = some (.struct #[f0, f1]))
    (hone : oneCellFields P #[f0, f1] = true) (hC : P.cellsOf d = 2) (h0 : P.underlying f0.type = some (.int .i64)) (h1 : P.underlying f1.type = some (.int .i64)) (h : DataW.trod enc P w base spare held fuel t cs = some x) :
    ∃ v, cs = [v] ∧ ∃ ls : List (List Dd), RDS w eDeed v ls := by
  rcases open_slice1 ht hC1 h with ⟨rfl, _⟩ | ⟨a, len, cap, m, n, V, D, Pl, rfl, hb, hl, hm, hmm, _, hf⟩
  · exact ⟨_, rfl, [], none, 0, rfl, Nat.le_refl _, by decide, fun h => absurd h (Nat.lt_irrefl _)⟩
  · refine ⟨_, rfl, ?_⟩
    have hlm : len ≤ m := by rw [hmm]; split <;> omega
    have hq : ∀ i, ∃ l : List Dd, i < len → w.cell? (a.add i) = some (V i) ∧ RD w eDeed (V i) l := by
      intro i
      by_cases hi : i < len
      · obtain ⟨hc, ht2⟩ := hf i (by omega)
        obtain ⟨v, hv, l, hr⟩ := rd_pairs he hd hone hC h0 h1 ht2
        injection hv with hv _
        subst hv
        exact ⟨_, fun _ => ⟨hc, hr.dd⟩⟩
      · exact ⟨[], fun h => absurd h hi⟩
    obtain ⟨f, hf2⟩ := Classical.axiomOfChoice hq
    refine ⟨(List.range len).map f, some a, cap, by simp, by simpa using hl, hm, fun hpos => ?_⟩
    simp only [List.length_map, List.length_range] at hpos
    obtain ⟨c0, _⟩ := hf2 0 hpos
    have ha0 : a.add 0 = a := by simp [Addr.add]
    rw [ha0] at c0
    obtain ⟨b, o, sp⟩ := a
    have hsp : sp = none := World.cell?_spot c0
    subst hsp
    refine ⟨b, o, rfl, World.block_lt_of_cell? w _ c0, fun k hk => ?_⟩
    simp only [List.length_map, List.length_range] at hk
    obtain ⟨d0, d1⟩ := hf2 k hk
    have hadd : ∀ i, (⟨b, o, none⟩ : Addr).add i = ⟨b, o + i, none⟩ := fun i => by unfold Addr.add; split <;> simp_all
    rw [hadd] at d0
    refine ⟨_, d0, ?_⟩
    simp only [List.getElem_map, List.getElem_range]
    exact d1
theorem rd_two {r : Reach} {b0 : Nat} {t : TypeId} {f0 f1 : Field} {v : Value} {d : DataW H} {p : List MemPlace} (hs : P.underlying t = some (.struct #[f0, f1])) (hone : oneCellFields P #[f0, f1] = true) (hC : P.cellsOf t = 2)
    (h0 : P.underlying f0.type = some (.int .i64)) (h1 : P.underlying f1.type = some (.int .i64)) (hv : Value.okWide P w r b0 t v) (h : DataW.Trod enc P w base spare held t v d p) :
    ∃ a b : Int, v = .agg #[.int .i64 a, .int .i64 b] := by
  obtain ⟨v0, v1, y0, y1, n, rfl, _, _, t0, t1⟩ := Go.Joins.open_agg2 hs hone hC hv h
  obtain ⟨n0, e0, _⟩ := DataW.trod_int h0 t0
  obtain ⟨n1, e1, _⟩ := DataW.trod_int h1 t1
  injection e0 with e0
  injection e1 with e1
  subst e0 e1
  exact ⟨_, _, rfl⟩
end
section
variable {H : Type} {enc : TypeId × Value → H} {w : World} {base : Nat} {spare : Nat → Bool} {held : Bool} {a0 : Option Addr} {n c : Nat} {d : DataW H} {p : List MemPlace}
set_option maxRecDepth 100000 in
theorem arg_deeds (h : DataW.Trod enc Try.prog w base spare held 25 (.slice a0 n c) d p) : ∃ ls, RDS w eDeed (.slice a0 n c) ls := by
  obtain ⟨fuel, hf⟩ := h
  obtain ⟨v, hv, l, hl⟩ := rd_deeds Try.underlying25 (by kernel_rfl) Try.underlying24 Try.underlying23 (by kernel_rfl) (by kernel_rfl) Try.underlying3 Try.underlying3 hf
  simp [Value.cells] at hv
  subst hv
  exact ⟨l, hl⟩
set_option maxRecDepth 100000 in
theorem arg_deed {r : Reach} {b0 : Nat} {v : Value} (hv : Value.okWide Try.prog w r b0 23 v) (h : DataW.Trod enc Try.prog w base spare held 23 v d p) : ∃ x y : Int, v = .agg #[.int .i64 x, .int .i64 y] :=
  rd_two Try.underlying23 (by kernel_rfl) (by kernel_rfl) Try.underlying3 Try.underlying3 hv h
end
end Go.Proofs.Ytoihdnekkgpcoaa
namespace Go.Proofs.Ytoihdnekkgpcoaa
open Go.ChangeShapes Go.WideShapes Go.ChangeAt Go.RowKit
set_option linter.unusedVariables false
set_option linter.unusedSimpArgs false

theorem kyOk_suc {l : List Int} {k : Nat} : kyOk l (k + 1) ↔ kyOk l k ∧ (0 ≤ l.getD k 0 ∧ l.getD k 0 ≤ 9) ∧ (0 < k → l.getD (k - 1) 0 < l.getD k 0) :=
  ⟨fun h => ⟨fun i hi => h i (by omega), h k (by omega)⟩, fun ⟨a, b, c⟩ => kyOk_step a b c⟩
theorem take_suc_iff {α : Type} {Q : α → Prop} {l : List α} {j : Nat} (h : j < l.length) : (∀ x ∈ l.take (j + 1), Q x) ↔ (∀ x ∈ l.take j, Q x) ∧ Q l[j] := by
  refine ⟨fun hh => ⟨fun x hx => hh x ?_, hh _ ?_⟩, fun ⟨a, b⟩ => take_step h a b⟩
  · rw [List.take_succ_eq_append_getElem h]; exact List.mem_append.2 (.inl hx)
  · rw [List.take_succ_eq_append_getElem h]; exact List.mem_append.2 (.inr (List.mem_singleton.2 rfl))
theorem okD_btw (d : Dd) : okD d ↔ (btw d.kind 1 3 = true ∧ btw d.key 0 9 = true) := by
  rw [btw_iff, btw_iff]
  unfold okD
  constructor
  · rintro ⟨a, b, c⟩; exact ⟨by omega, by omega⟩
  · rintro ⟨a, b⟩; exact ⟨by omega, by omega, by omega⟩
def HrA (l : List Int) (w : World) (fv lv iv : Value) (wr : World) : Prop :=
  ∃ (j : Nat) (fb : Bool) (la : Int), j ≤ l.length ∧ iv = .int .i64 j ∧ fv = .bool fb ∧ lv = .int .i64 la ∧ (fb = true ↔ kyOk l j) ∧ (la = if j = 0 then -1 else l.getD (j - 1) 0) ∧ w = wr
def HrB (B0 : Prop) (l : List Int) (P : List (List Dd)) (w : World) (gv fv iv : Value) (wr : World) : Prop :=
  ∃ (k : Nat) (gb fb : Bool), k ≤ P.length ∧ iv = .int .i64 k ∧ gv = .bool gb ∧ fv = .bool fb ∧ (gb = true ↔ (B0 ∨ ¬ ∀ p ∈ P.take k, p.length ≤ 4)) ∧ (fb = true ↔ (kyOk l l.length ∧ dsOk (P.take k))) ∧ Kp w wr
def HrC (F0 : Prop) (p : List Dd) (w : World) (fv iv : Value) (wr : World) : Prop :=
  ∃ (k : Nat) (fb : Bool), k ≤ p.length ∧ iv = .int .i64 k ∧ fv = .bool fb ∧ (fb = true ↔ (F0 ∧ ∀ d ∈ p.take k, okD d)) ∧ Kp w wr
set_option maxRecDepth 100000 in
set_option maxHeartbeats 8000000 in
theorem href_any (algo : Int) (l : List Int) (P : List (List Dd)) (o : List Int) (vl vp vo : Value) (w : World) (hl : RD w eInt vl l) (hp : RDS w eDeed vp P) (ho : RD w eInt vo o) :
    Calls Try.prog 12 #[.int .i64 algo, vl, vp, vo] w (fun e w' => e = .returned (.int .i64 (rgF algo l P o.length)) ∧ Kp w w') := by
  obtain ⟨A1, c1, rfl, hc1, _⟩ := hl.shape
  obtain ⟨A2, c2, rfl, hc2, _⟩ := hp.shape
  obtain ⟨A3, c3, rfl, hc3, _⟩ := ho.shape
  have HL := hide hl
  have HP := hide hp
  clear hl hp ho
  obtain ⟨gb0, hgb0⟩ : ∃ g : Bool, (g = true ↔ (4 < P.length ∨ 500 < o.length)) := ⟨decide (4 < P.length ∨ 500 < o.length), by simp⟩
  have HGB := hide hgb0
  have HE : Hid (∀ g f : Bool, (g = true ↔ ((4 < P.length ∨ 500 < o.length) ∨ ¬ ∀ p ∈ P, p.length ≤ 4)) → (f = true ↔ (kyOk l l.length ∧ dsOk P)) → rgF algo l P o.length = if btw algo 1 4 = false then 1 else if g = true then 2 else if f = true then 0 else 3) := hide (by
    intro g f hg hf
    unfold rgF
    have e1 : (¬ (1 ≤ algo ∧ algo ≤ 4)) ↔ btw algo 1 4 = false := by rw [btw_f_iff]
    have e2 : (P.length > 4 ∨ o.length > 500 ∨ ¬ (∀ p ∈ P, p.length ≤ 4)) ↔ g = true := by rw [hg]; exact or_assoc.symm
    simp only [propext e1, propext e2, ← propext hf])
  clear hgb0
  go_enter Try.func12, Try.ntmps12
  go_upto_region 1 with fail
  go_cut [9] from 18 to 25 (fun s9 wx => s9 = .bool gb0 ∧ w = wx)
  case first =>
    by_cases h1 : 4 < P.length
    · have d1 : decide ((4 : Int) < (P.length : Int)) = true := decide_eq_true (by omega)
      have e0 : gb0 = true := HGB.out.2 (.inl h1)
      have HE0 := hide e0
      clear h1 e0
      go_wp2_with fail
      go_meet
      exact ⟨by rw [HE0.out], rfl⟩
    · have d1 : decide ((4 : Int) < (P.length : Int)) = false := decide_eq_false (by omega)
      have e0 : decide ((500 : Int) < (o.length : Int)) = gb0 := by
        have h := HGB.out
        cases gb0 with
        | true => have := h.1 rfl; exact decide_eq_true (by omega)
        | false => exact decide_eq_false (fun hh => by have := h.2 (.inr (by omega)); cases this)
      have HE0 := hide e0
      clear h1 e0
      go_wp2_with fail
      go_meet
      exact ⟨by rw [← HE0.out], rfl⟩
  case rest =>
    obtain ⟨rfl, rfl⟩ := hcut
    go_wp2
    go_loopw [10, 11, 28] (fun fv lv iv wx => HrA l w fv lv iv wx) (fun _ _ iv _ => l.length - (intOf iv).toNat)
    case atStart => exact ⟨0, true, -1, Nat.zero_le _, rfl, rfl, rfl, ⟨fun _ i hi => by omega, fun _ => rfl⟩, rfl, rfl⟩
    case round =>
      obtain ⟨j, fb, la, hj, rfl, rfl, rfl, hfb, hla, rfl⟩ := hrel
      by_cases hjl : j < l.length
      · obtain ⟨b, oo, e, _, x0⟩ := HL.out.int hjl
        cases e
        have hg : l.getD j 0 = l[j] := by simp [List.getD_eq_getElem?_getD, hjl]
        obtain ⟨x, hx⟩ : ∃ x, x = l[j]'hjl := ⟨_, rfl⟩
        rw [← hx] at x0 hg
        have hjli : (j : Int) < (l.length : Int) := by omega
        have HX := hide (And.intro hfb (And.intro hla (And.intro hg hjl)))
        cases fb with
        | true =>
          have hk := hfb.1 rfl
          have hla9 : -1 ≤ la ∧ la ≤ 9 := by
            rw [hla]
            split
            · omega
            · have := (hk (j - 1) (by omega)).1; omega
          have s1 : IntKind.i64.wrap (la + 1) = la + 1 := IntWalk.i64_in _ (by omega)
          have HR : Hid ((btw x (la + 1) 9 = true) ↔ kyOk l (j + 1)) := hide (by
            rw [kyOk_suc, btw_iff, hg]
            by_cases h0 : j = 0
            · subst h0
              rw [if_pos rfl] at hla
              subst hla
              constructor
              · rintro ⟨a, b⟩; exact ⟨hk, ⟨by omega, b⟩, fun h => absurd h (Nat.lt_irrefl _)⟩
              · rintro ⟨_, ⟨a, b⟩, _⟩; exact ⟨by omega, b⟩
            · rw [if_neg h0] at hla
              have h1 := (hk (j - 1) (by omega)).1
              rw [← hla] at h1 ⊢
              constructor
              · rintro ⟨a, b⟩; exact ⟨hk, ⟨by omega, b⟩, fun _ => by omega⟩
              · rintro ⟨_, ⟨a, b⟩, c⟩; exact ⟨by have := c (by omega); omega, b⟩)
          clear hfb hla hg hx hk hla9
          go_wp2_with fail
          refine (between_any x (la + 1) 9 _).mono ?_
          rintro e w2 ⟨rfl, rfl⟩
          go_wp2
          go_roundw
          case rel => exact ⟨j + 1, _, x, by have := HX.out.2.2.2; omega, by go_num, rfl, rfl, HR.out, by rw [if_neg (Nat.succ_ne_zero _), Nat.add_sub_cancel, HX.out.2.2.1], rfl⟩
          case measure => simp [intOf]; have := HX.out.2.2.2; omega
        | false =>
          have HN : Hid (¬ kyOk l j) := hide (fun h => by have := hfb.2 h; cases this)
          clear hfb hla hg hx
          go_wp2
          go_roundw
          case rel => exact ⟨j + 1, false, x, by have := HX.out.2.2.2; omega, by go_num, rfl, rfl, ⟨(fun h => by cases h), (fun h => absurd (fun i hi => h i (by omega)) HN.out)⟩, by rw [if_neg (Nat.succ_ne_zero _), Nat.add_sub_cancel, HX.out.2.2.1], rfl⟩
          case measure => simp [intOf]; have := HX.out.2.2.2; omega
      · have HF0 : Hid (fb = true ↔ kyOk l l.length) := hide (by rw [hfb, show j = l.length by omega])
        clear hfb hla
        go_wp2
        go_loopw [9, 10, 43] (fun gv fv iv wx => HrB (4 < P.length ∨ 500 < o.length) l P w gv fv iv wx) (fun _ _ iv _ => P.length - (intOf iv).toNat)
        case atStart => exact ⟨0, _, _, Nat.zero_le _, rfl, rfl, rfl, by rw [HGB.out]; simp, by rw [HF0.out]; simp [dsOk], Kp.refl _⟩
        case round =>
          obtain ⟨k, g, f, hk, rfl, rfl, rfl, hg, hf, hkp⟩ := hrel
          by_cases hlt : k < P.length
          · obtain ⟨b, oo, u, e, _, c0, hu⟩ := (HP.out.kp hkp).at_ hlt
            cases e
            obtain ⟨A4, c4, rfl, hq4, _⟩ := hu.shape
            have HU := hide hu
            have HLT := hide hlt
            have HKP := hide hkp
            have HS1 := hide (take_suc_iff (Q := fun p : List Dd => p.length ≤ 4) hlt)
            have HS2 : Hid (dsOk (P.take (k + 1)) ↔ dsOk (P.take k) ∧ ∀ d ∈ P[k]'hlt, okD d) := hide (take_suc_iff (Q := fun p : List Dd => ∀ d ∈ p, okD d) hlt)
            have HGF := hide (And.intro hg hf)
            obtain ⟨p, hpe⟩ : ∃ p, p = P[k]'hlt := ⟨_, rfl⟩
            rw [← hpe] at c0 HU HS1 HS2 hq4
            have hlti : (k : Int) < (P.length : Int) := by omega
            obtain ⟨g2, hg2⟩ : ∃ g2 : Bool, g2 = (g || decide ((4 : Int) < (p.length : Int))) := ⟨_, rfl⟩
            have HG2 : Hid (g2 = true ↔ ((4 < P.length ∨ 500 < o.length) ∨ ¬ ∀ p ∈ P.take (k + 1), p.length ≤ 4)) := hide (by
              have e : ((4 : Int) < (p.length : Int)) ↔ ¬ p.length ≤ 4 := by omega
              rw [hg2, Bool.or_eq_true, hg, HS1.out, decide_eq_true_eq, Classical.not_and_iff_not_or_not, e, or_assoc])
            clear hpe hu hg hf
            go_upto_region 13 with fail
            go_cut [9] from 48 to 52 (fun s9 wx => s9 = .bool g2 ∧ wr = wx)
            case first =>
              cases g with
              | true =>
                go_wp2_with fail
                go_meet
                exact ⟨by rw [hg2]; rfl, rfl⟩
              | false =>
                have HG3 : Hid (decide ((4 : Int) < (p.length : Int)) = g2) := hide (by rw [hg2]; rfl)
                clear hg2
                go_wp2_with fail
                go_meet
                exact ⟨by rw [← HG3.out], rfl⟩
            case rest =>
              obtain ⟨rfl, rfl⟩ := hcut
              clear hg2
              go_wp2
              go_loopw [10, 55] (fun fv iv wx => HrC (kyOk l l.length ∧ dsOk (P.take k)) p wr fv iv wx) (fun _ iv _ => p.length - (intOf iv).toNat)
              case atStart => exact ⟨0, _, Nat.zero_le _, rfl, rfl, by rw [HGF.out.2]; simp, Kp.refl _⟩
              case round =>
                obtain ⟨i, fi, hi, rfl, rfl, hfi, hkp2⟩ := hrel
                by_cases hil : i < p.length
                · obtain ⟨b4, o4, e, _, x0, x1⟩ := (HU.out.kp hkp2).deed hil
                  cases e
                  have HS3 := hide (take_suc_iff (Q := okD) hil)
                  have HFI := hide hfi
                  have HKK := hide hkp2
                  have HIL := hide hil
                  obtain ⟨d, hd⟩ : ∃ d, d = p[i]'hil := ⟨_, rfl⟩
                  rw [← hd] at x0 x1 HS3
                  have hili : (i : Int) < (p.length : Int) := by omega
                  obtain ⟨kd, ky⟩ := d
                  simp only at x0 x1
                  clear hd hfi hkp2
                  cases fi with
                  | true =>
                    cases hb1 : btw kd 1 3 with
                    | true =>
                      have HR : Hid ((btw ky 0 9 = true) ↔ ((kyOk l l.length ∧ dsOk (P.take k)) ∧ ∀ d ∈ p.take (i + 1), okD d)) := hide (by
                        have h1 := HFI.out.1 rfl
                        rw [HS3.out, okD_btw]
                        constructor
                        · intro h; exact ⟨h1.1, h1.2, hb1, h⟩
                        · intro h; exact h.2.2.2)
                      have HB1 := hide hb1
                      clear hb1
                      go_wp2_with fail
                      refine (between_any kd 1 3 _).mono ?_
                      rintro e w2 ⟨rfl, rfl⟩
                      rw [HB1.out]
                      go_wp2_with fail
                      refine (between_any ky 0 9 _).mono ?_
                      rintro e w2 ⟨rfl, rfl⟩
                      go_wp2
                      go_roundw
                      case rel => exact ⟨i + 1, _, by have := HIL.out; omega, by go_num, rfl, HR.out, by have := HKK.out; (focus ((repeat (first | (with_reducible assumption) | (with_reducible exact Kp.refl _) | (with_reducible apply Kp.drew) | (with_reducible apply Kp.drewN) | ((with_reducible apply Kp.setR); (focus (first | (with_reducible assumption) | (simp; done) | (simp; omega)))) | (with_reducible apply Kp.alloc) | ((with_reducible apply Kp.call); (with_reducible assumption)) | ((with_reducible apply Kp.app); (with_reducible assumption)))); done))⟩
                      case measure => simp [intOf]; have := HIL.out; omega
                    | false =>
                      have HR : Hid ((false = true) ↔ ((kyOk l l.length ∧ dsOk (P.take k)) ∧ ∀ d ∈ p.take (i + 1), okD d)) := hide (by
                        rw [HS3.out, okD_btw]
                        constructor
                        · intro h; cases h
                        · intro h; have h := h.2.2.1; rw [hb1] at h; exact h)
                      have HB1 := hide hb1
                      clear hb1
                      go_wp2_with fail
                      refine (between_any kd 1 3 _).mono ?_
                      rintro e w2 ⟨rfl, rfl⟩
                      rw [HB1.out]
                      go_wp2
                      go_roundw
                      case rel => exact ⟨i + 1, _, by have := HIL.out; omega, by go_num, rfl, HR.out, by have := HKK.out; (focus ((repeat (first | (with_reducible assumption) | (with_reducible exact Kp.refl _) | (with_reducible apply Kp.drew) | (with_reducible apply Kp.drewN) | ((with_reducible apply Kp.setR); (focus (first | (with_reducible assumption) | (simp; done) | (simp; omega)))) | (with_reducible apply Kp.alloc) | ((with_reducible apply Kp.call); (with_reducible assumption)) | ((with_reducible apply Kp.app); (with_reducible assumption)))); done))⟩
                      case measure => simp [intOf]; have := HIL.out; omega
                  | false =>
                    have HR : Hid ((false = true) ↔ ((kyOk l l.length ∧ dsOk (P.take k)) ∧ ∀ d ∈ p.take (i + 1), okD d)) := hide (by
                      rw [HS3.out]
                      constructor
                      · intro h; cases h
                      · intro h; exact HFI.out.2 ⟨h.1, h.2.1⟩)
                    go_wp2
                    go_roundw
                    case rel => exact ⟨i + 1, _, by have := HIL.out; omega, by go_num, rfl, HR.out, by have := HKK.out; (focus ((repeat (first | (with_reducible assumption) | (with_reducible exact Kp.refl _) | (with_reducible apply Kp.drew) | (with_reducible apply Kp.drewN) | ((with_reducible apply Kp.setR); (focus (first | (with_reducible assumption) | (simp; done) | (simp; omega)))) | (with_reducible apply Kp.alloc) | ((with_reducible apply Kp.call); (with_reducible assumption)) | ((with_reducible apply Kp.app); (with_reducible assumption)))); done))⟩
                    case measure => simp [intOf]; have := HIL.out; omega
                · have HF2 : Hid (fi = true ↔ (kyOk l l.length ∧ dsOk (P.take (k + 1)))) := hide (by
                    rw [hfi, HS2.out, List.take_of_length_le (show p.length ≤ i by omega)]
                    constructor
                    · rintro ⟨⟨a, b⟩, c⟩; exact ⟨a, b, c⟩
                    · rintro ⟨a, b, c⟩; exact ⟨⟨a, b⟩, c⟩)
                  have HKK := hide (HKP.out.trans hkp2)
                  clear hfi hkp2
                  go_wp2
                  go_roundw
                  case rel => exact ⟨k + 1, _, _, by have := HLT.out; omega, by go_num, rfl, rfl, HG2.out, HF2.out, HKK.out⟩
                  case measure => simp [intOf]; have := HLT.out; omega
          · have h1 := HE.out g f (by rw [hg, List.take_of_length_le (by omega)]) (by rw [hf, List.take_of_length_le (by omega)])
            have H1 := hide h1
            have HKP := hide hkp
            clear h1 hg hf hkp
            go_wp2_with fail
            refine (between_any algo 1 4 _).mono ?_
            rintro e w2 ⟨rfl, rfl⟩
            cases hb : btw algo 1 4 with
            | false =>
              have H2 := hide (H1.out.trans (if_pos hb))
              clear hb
              go_wp2
              go_ret
              exact ⟨by rw [H2.out]; rfl, HKP.out⟩
            | true =>
              have H2 := hide (H1.out.trans (if_neg (by rw [hb]; decide)))
              clear hb H1
              cases g with
              | true =>
                go_wp2
                go_ret
                exact ⟨by rw [H2.out]; rfl, HKP.out⟩
              | false =>
                cases f with
                | true =>
                  go_wp2
                  go_ret
                  exact ⟨by rw [H2.out]; rfl, HKP.out⟩
                | false =>
                  go_wp2
                  go_ret
                  exact ⟨by rw [H2.out]; rfl, HKP.out⟩
end Go.Proofs.Ytoihdnekkgpcoaa
namespace Go.Proofs.Ytoihdnekkgpcoaa
open Go.ChangeShapes Go.WideShapes Go.ChangeAt Go.RowKit
set_option linter.unusedVariables false
set_option linter.unusedSimpArgs false

theorem lives_kpF (w : World) : Calls Try.prog 10 #[] w (fun e w' => e = .returned (.bool true) ∧ Kp w w') := (hlives_any w).mono fun e w' h => ⟨h.1, Kp.of h.2⟩
def HfA (o : List Int) (i : Nat) (w : World) (av iv : Value) (wr : World) : Prop :=
  ∃ (k : Nat) (l : List Int), k ≤ 200 ∧ iv = .int .i64 k ∧ l = o ++ List.replicate k (i : Int) ∧ OW wr w.heap.size 3 eInt av l ∧ Kp w wr
def HfB (D : List (Nat × Nat × Dn)) (w : World) (iv : Value) (wr : World) : Prop := ∃ k : Nat, k ≤ D.length ∧ iv = .int .i64 k ∧ Kp w wr
set_option maxRecDepth 100000 in
set_option maxHeartbeats 8000000 in
theorem handsFree_walk (l : List Int) (P : List (List Dd)) (o : List Int) (who : Int) (vl vp vo : Value) (w : World) (hl : RD w eInt vl l) (hp : RDS w eDeed vp P) (ho : RD w eInt vo o) (hw : -9223372036854775808 ≤ who ∧ who ≤ 9223372036854775807) :
    Calls Try.prog 6 #[vl, vp, vo, .int .i64 who] w (Ret (.bool true) w) := by
  have HHR := hide (fun W (k : Kp w W) => href_any 3 l P o vl vp vo W (hl.kp k) (hp.kp k) (ho.kp k))
  obtain ⟨A1, c1, rfl, hc1, _⟩ := hl.shape
  obtain ⟨A2, c2, rfl, hc2, _⟩ := hp.shape
  obtain ⟨A3, c3, rfl, hc3, _⟩ := ho.shape
  have HL := hide hl
  have HP := hide hp
  have HO := hide ho
  by_cases hr : rgF 3 l P o.length = 0
  · rw [hr] at HHR
    by_cases h2 : P.length = 2
    · have d2 : ((P.length : Int) != 2) = false := by simp; omega
      by_cases h3 : who < 0
      · have d3 : decide (who < 0) = true := decide_eq_true h3
        clear hl hp ho h2 h3 hr
        go_enter Try.func6, Try.ntmps6
        go_wp2_with fail
        refine (lives_kpF _).mono ?_
        rintro e w1 ⟨rfl, hk1⟩
        have HK1 := hide hk1
        clear hk1
        go_wp2_with fail
        refine (HHR.out _ HK1.out).mono ?_
        rintro e w2 ⟨rfl, hk2⟩
        have HK2 := hide (HK1.out.trans hk2)
        clear hk2
        go_wp2_with fail
        refine (lives_kpF _).mono ?_
        rintro e w3 ⟨rfl, hk3⟩
        have HK3 := hide (HK2.out.trans hk3)
        clear hk3
        go_wp2
        go_ret
        exact ⟨rfl, HK3.out.bel⟩
      · have d3 : decide (who < 0) = false := decide_eq_false h3
        by_cases h4 : 1 < who
        · have d4 : decide ((1 : Int) < who) = true := decide_eq_true h4
          clear hl hp ho h2 h3 h4 hr
          go_enter Try.func6, Try.ntmps6
          go_wp2_with fail
          refine (lives_kpF _).mono ?_
          rintro e w1 ⟨rfl, hk1⟩
          have HK1 := hide hk1
          clear hk1
          go_wp2_with fail
          refine (HHR.out _ HK1.out).mono ?_
          rintro e w2 ⟨rfl, hk2⟩
          have HK2 := hide (HK1.out.trans hk2)
          clear hk2
          go_wp2_with fail
          refine (lives_kpF _).mono ?_
          rintro e w3 ⟨rfl, hk3⟩
          have HK3 := hide (HK2.out.trans hk3)
          clear hk3
          go_wp2
          go_ret
          exact ⟨rfl, HK3.out.bel⟩
        · have d4 : decide ((1 : Int) < who) = false := decide_eq_false h4
          by_cases h5 : 60 < o.length
          · have d5 : decide ((60 : Int) < (o.length : Int)) = true := decide_eq_true (by omega)
            clear hl hp ho h2 h3 h4 h5 hr
            go_enter Try.func6, Try.ntmps6
            go_wp2_with fail
            refine (lives_kpF _).mono ?_
            rintro e w1 ⟨rfl, hk1⟩
            have HK1 := hide hk1
            clear hk1
            go_wp2_with fail
            refine (HHR.out _ HK1.out).mono ?_
            rintro e w2 ⟨rfl, hk2⟩
            have HK2 := hide (HK1.out.trans hk2)
            clear hk2
            go_wp2_with fail
            refine (lives_kpF _).mono ?_
            rintro e w3 ⟨rfl, hk3⟩
            have HK3 := hide (HK2.out.trans hk3)
            clear hk3
            go_wp2
            go_ret
            exact ⟨rfl, HK3.out.bel⟩
          · have d5 : decide ((60 : Int) < (o.length : Int)) = false := decide_eq_false (by omega)
            obtain ⟨_, _, ok⟩ := rgF_ok hr
            obtain ⟨i, hi⟩ : ∃ i : Nat, (i : Int) = 1 - who := ⟨(1 - who).toNat, by omega⟩
            have hi2 : i < P.length := by omega
            have s1 : IntKind.i64.wrap (1 - who) = (i : Int) := by rw [hi]; exact IntWalk.i64_in _ (by omega)
            have hlen : (o ++ List.replicate 200 (i : Int)).length = o.length + 200 := by simp
            have HRun : Hid (∀ av W, Kp w W → RD W eInt av (o ++ List.replicate 200 (i : Int)) → Calls Try.prog 9 #[.int .i64 3, .slice A1 l.length c1, .slice A2 P.length c2, av] W (fun e w' => ∃ (D : List (Nat × Nat × Dn)) (vd vl : Value) (lf : List Int), e = .returned (.tuple #[.agg #[vd, vl], .int .i64 0]) ∧ RD w' eDone vd D ∧ RD w' eInt vl lf ∧ Kp W w' ∧ D.length ≤ 9223372036854775807 ∧
                ∀ x ∈ D, (x.1 : Int) ≠ who → 0 ≤ x.2.2.fin ∧ x.2.2.fin < (o.length : Int) + 200)) := hide (by
              intro av W k hav
              refine (hrun_any 3 l P (o ++ List.replicate 200 (i : Int)) _ _ av W (hl.kp k) (hp.kp k) hav (rgF_of (by decide) (by omega) ok)).mono ?_
              rintro e w' ⟨s, vd, vl, rfl, hf, h1, h2', hk⟩
              have hm := mark_free ok i hi2 o (by omega) s hf
              obtain ⟨_, cc, _, q1, q2⟩ := h1.shape
              refine ⟨_, vd, vl, _, rfl, h1, h2', hk, by omega, fun x hx hne => ?_⟩
              rw [mem_doneL] at hx
              obtain ⟨hx1, hx2⟩ := hx
              have hxi : x.1 = i := by omega
              rw [hxi] at hx2
              exact hm _ (List.mem_of_getElem? hx2))
            have HHI := hide hi
            have HM1 : Hid ((([] : List Int).length + o.length) * 8 ≤ 140737488355328) := hide (by simp; omega)
            have HM2 : Hid (([] : List Int).length + o.length ≤ maxLen) := hide (by simp [maxLen]; omega)
            have HOL := hide h5
            clear hl hp ho h2 h3 h4 h5 hr ok hi2 hi
            go_enter Try.func6, Try.ntmps6
            go_wp2_with fail
            refine (lives_kpF _).mono ?_
            rintro e w1 ⟨rfl, hk1⟩
            have HK1 := hide hk1
            clear hk1
            go_wp2_with fail
            refine (HHR.out _ HK1.out).mono ?_
            rintro e w2 ⟨rfl, hk2⟩
            have HK2 := hide (HK1.out.trans hk2)
            clear hk2
            go_wp2_with (at_builtin; (with_reducible refine list_app (B := w.heap.size) (l := []) (m := o) row_int (.slice (some ⟨w2.heap.size, 0, none⟩) 0 0) ?_ (.tmp 42) (.tmp 43) ?_ ?_ ?_ ?_ HM1.out HM2.out ?_ ?_); (with_reducible rfl); (with_reducible rfl); rfl; (exact OW.emptyE rfl HK2.out.size); (exact (HO.out.kp HK2.out).alloc _); (exact (HK2.out.alloc).size); intro v3 w3 ho3 hg3 hat3)
            have hk3 : Kp w w3 := Kp.app hg3 HK2.out.alloc (OW.hi (w := w2.alloc (.cells #[] 3)) (e := 3) (E := eInt) (l := []) (OW.emptyE rfl HK2.out.size))
            have HST : Hid (HfA o i w v3 (.int .i64 0) w3) := hide ⟨0, o, by omega, rfl, by simp, ho3, hk3⟩
            clear ho3 hg3 hat3 hk3 HM1 HM2
            go_loopw [9, 45] (fun av iv wx => HfA o i w av iv wx) (fun _ iv _ => 200 - (intOf iv).toNat)
            case atStart => exact HST.out
            case round =>
              obtain ⟨k, ll, hk, rfl, hll, how, hkp⟩ := hrel
              obtain ⟨xA, xN, xC, rfl⟩ := how.rd.slice
              have hlen2 : ll.length = o.length + k := by rw [hll]; simp
              by_cases hk2 : k < 200
              · have d6 : decide ((k : Int) < 200) = true := decide_eq_true (by omega)
                have HM1 : Hid ((ll.length + [(i : Int)].length) * 8 ≤ 140737488355328) := hide (by have := HOL.out; simp; omega)
                have HM2 : Hid (ll.length + [(i : Int)].length ≤ maxLen) := hide (by have := HOL.out; simp [maxLen]; omega)
                have HOW := hide how
                have HKP := hide hkp
                have HHI2 := hide how.hi
                have HLL := hide hll
                have HK2' := hide hk2
                clear how hkp hll hlen2 hk2
                go_wp2_with (at_builtin; (with_reducible refine list_app (B := w.heap.size) (l := ll) (m := [(i : Int)]) row_int (.slice xA xN xC) ?_ (.tmp 47) (.tmp 50) ?_ ?_ ?_ ?_ HM1.out HM2.out ?_ ?_); (with_reducible rfl); (with_reducible rfl); rfl; (exact HOW.out.alloc _); (show RD _ _ (.slice (some ⟨_, 0, none⟩) 1 1) _; (focus ((repeat (first | (with_reducible assumption) | exact RD.new1 _ rfl | (refine RD.new1e _ ?_ rfl; simp; done) | (with_reducible apply RD.alloc) | (with_reducible apply RD.drew) | (with_reducible apply RD.drewN) | ((with_reducible apply RD.belowR); (with_reducible assumption)))); done))); (exact (HKP.out.alloc).size); intro v4 w4 ho4 hg4 hat4)
                go_roundw
                case rel => exact ⟨k + 1, _, by have := HK2'.out; omega, by go_num, by rw [HLL.out, List.append_assoc, ← List.replicate_succ'], ho4, Kp.app hg4 HKP.out.alloc HHI2.out⟩
                case measure => simp [intOf]; have := HK2'.out; omega
              · obtain rfl : k = 200 := by omega
                have hRun := HRun.out (.slice xA xN xC) wr hkp (by rw [← hll]; exact how.rd)
                have HRN := hide hRun
                have HKP := hide hkp
                have hxN : xN = o.length + 200 := by
                  obtain ⟨_, _, e, _⟩ := how.rd
                  injection e with _ e _
                  omega
                have HXN := hide hxN
                clear hxN
                clear how hkp hll hlen2 hk2 hRun HRun HST
                go_wp2_with fail
                refine HRN.out.mono ?_
                rintro e w5 ⟨D, vd, vl, lf, rfl, hd, hlf, hk5, hDl, hD⟩
                obtain ⟨dA, dC, rfl, hdc, _⟩ := hd.shape
                obtain ⟨lA, lC, rfl, hlc, _⟩ := hlf.shape
                have HD := hide hd
                have HDA := hide hD
                have HK5 := hide (HKP.out.trans hk5)
                clear hd hlf hk5 hD HRN
                go_wp2_with fail
                have hq : BC (w5.alloc (.cells #[.slice dA D.length dC, .slice lA lf.length lC] 29)) w5.heap.size 29 [.slice dA D.length dC, .slice lA lf.length lC] := BC.new _ _ _
                have q0 : (w5.alloc (.cells #[.slice dA D.length dC, .slice lA lf.length lC] 29)).cell? ⟨w5.heap.size, 0, none⟩ = some (.slice dA D.length dC) := hq.cell 0
                have HD6 := hide (HD.out.kp (w' := w5.alloc (.cells #[.slice dA D.length dC, .slice lA lf.length lC] 29)) (Kp.refl w5).alloc)
                have HK6 : Hid (Kp w (w5.alloc (.cells #[.slice dA D.length dC, .slice lA lf.length lC] 29))) := hide HK5.out.alloc
                clear hq
                go_loopw [68] (fun iv wx => HfB D (w5.alloc (.cells #[.slice dA D.length dC, .slice lA lf.length lC] 29)) iv wx) (fun iv _ => D.length - (intOf iv).toNat)
                case atStart => exact ⟨0, Nat.zero_le _, rfl, Kp.refl _⟩
                case round =>
                  obtain ⟨k, hk, rfl, hkp⟩ := hrel
                  by_cases hlt : k < D.length
                  · obtain ⟨b, oo, e, _, x0, x1, x2, x3, x4⟩ := (HD6.out.kp hkp).done hlt
                    have hx := HDA.out (D[k]'hlt) (List.getElem_mem hlt)
                    obtain ⟨x, hxe⟩ : ∃ x, x = D[k]'hlt := ⟨_, rfl⟩
                    rw [← hxe] at x0 x1 x2 x3 x4 hx
                    obtain ⟨xa, xe, xb, xf, xi⟩ := x
                    simp only at x0 x1 x2 x3 x4 hx
                    have hlti : (k : Int) < (D.length : Int) := by omega
                    have HLT := hide hlt
                    have HKP6 := hide hkp
                    cases e
                    clear hxe hkp hlt
                    by_cases hne : (xa : Int) = who
                    · have d7 : ((xa : Int) != who) = false := by simp [hne]
                      clear hx hne
                      go_wp2
                      go_roundw
                      case rel => exact ⟨k + 1, by have := HLT.out; omega, by go_num, by have := HKP6.out; (focus ((repeat (first | (with_reducible assumption) | (with_reducible exact Kp.refl _) | (with_reducible apply Kp.drew) | (with_reducible apply Kp.drewN) | ((with_reducible apply Kp.setR); (focus (first | (with_reducible assumption) | (simp; done) | (simp; omega)))) | (with_reducible apply Kp.alloc) | ((with_reducible apply Kp.call); (with_reducible assumption)) | ((with_reducible apply Kp.app); (with_reducible assumption)))); done))⟩
                      case measure => simp [intOf]; have := HLT.out; omega
                    · obtain ⟨y1, y2⟩ := hx hne
                      have d7 : ((xa : Int) != who) = true := by simp [hne]
                      have d8 : decide (xf < 0) = false := decide_eq_false (by omega)
                      have d9 : decide ((xN : Int) ≤ xf) = false := decide_eq_false (by have := HXN.out; omega)
                      clear hx hne y1 y2
                      go_wp2
                      go_roundw
                      case rel => exact ⟨k + 1, by have := HLT.out; omega, by go_num, by have := HKP6.out; (focus ((repeat (first | (with_reducible assumption) | (with_reducible exact Kp.refl _) | (with_reducible apply Kp.drew) | (with_reducible apply Kp.drewN) | ((with_reducible apply Kp.setR); (focus (first | (with_reducible assumption) | (simp; done) | (simp; omega)))) | (with_reducible apply Kp.alloc) | ((with_reducible apply Kp.call); (with_reducible assumption)) | ((with_reducible apply Kp.app); (with_reducible assumption)))); done))⟩
                      case measure => simp [intOf]; have := HLT.out; omega
                  · have HF := hide (HK6.out.trans hkp)
                    clear hkp
                    go_wp2
                    go_ret
                    exact ⟨rfl, HF.out.bel⟩
    · have d2 : ((P.length : Int) != 2) = true := by simp; omega
      clear hl hp ho h2 hr
      go_enter Try.func6, Try.ntmps6
      go_wp2_with fail
      refine (lives_kpF _).mono ?_
      rintro e w1 ⟨rfl, hk1⟩
      have HK1 := hide hk1
      clear hk1
      go_wp2_with fail
      refine (HHR.out _ HK1.out).mono ?_
      rintro e w2 ⟨rfl, hk2⟩
      have HK2 := hide (HK1.out.trans hk2)
      clear hk2
      go_wp2_with fail
      refine (lives_kpF _).mono ?_
      rintro e w3 ⟨rfl, hk3⟩
      have HK3 := hide (HK2.out.trans hk3)
      clear hk3
      go_wp2
      go_ret
      exact ⟨rfl, HK3.out.bel⟩
  · obtain ⟨R, hR⟩ : ∃ R, R = rgF 3 l P o.length := ⟨_, rfl⟩
    rw [← hR] at HHR hr
    have d1 : (R != 0) = true := by simpa using hr
    clear hl hp ho hr hR
    go_enter Try.func6, Try.ntmps6
    go_wp2_with fail
    refine (lives_kpF _).mono ?_
    rintro e w1 ⟨rfl, hk1⟩
    have HK1 := hide hk1
    clear hk1
    go_wp2_with fail
    refine (HHR.out _ HK1.out).mono ?_
    rintro e w2 ⟨rfl, hk2⟩
    have HK2 := hide (HK1.out.trans hk2)
    clear hk2
    go_wp2_with fail
    refine (lives_kpF _).mono ?_
    rintro e w3 ⟨rfl, hk3⟩
    have HK3 := hide (HK2.out.trans hk3)
    clear hk3
    go_wp2
    go_ret
    exact ⟨rfl, HK3.out.bel⟩
end Go.Proofs.Ytoihdnekkgpcoaa
namespace Go.Proofs.Ytoihdnekkgpcoaa
open Go.ChangeShapes Go.WideShapes Go.ChangeAt Go.RowKit Go.Deep
set_option linter.unusedVariables false
set_option linter.unusedSimpArgs false

set_option maxRecDepth 100000 in
theorem handsFree_lifted (os : Os) (started : os.Started) (H : Type) (enc : TypeId × Value → H) :
    ReturnsInHanded {} Try.checked os 6 .any (Rows.handsFreeSpec.pre6 enc Try.prog Try.f6 Rows.handsFreeRow.domain false) (Rows.handsFreeSpec.post enc Try.prog Try.f6 false true false false) := by
  refine returnsInHanded_of_change (C := Try.checked) own started (by kernel_rfl) Try.func6
    (ChangeSpec.witness6 (enc := enc) (C := Try.checked) false ⟨#[], #[.slice none 0 0, .slice none 0 0, .slice none 0 0, .int .i64 0], []⟩ 8 (by kernel_rfl) (by kernel_rfl) (by kernel_rfl) (by kernel_rfl)) ?_
  intro W base args ds gs before hval0 hW hcnd _
  have hval : ∀ (j : Nat) t v, Try.f6.params[j]? = some t → args[j]? = some v → Value.okWide Try.prog W .any base t v := hval0
  have hW' := hW
  obtain ⟨p, q, hA0, hV, rfl, hfz, hnd⟩ := hW
  have hA : DataW.TrodAll enc Try.prog W 0 (fun _ => true) true Try.f6.params.toList args.toList ds p := hA0
  rw [Try.params6] at hA hval
  obtain ⟨v0, vs0, d0, ds0, p0, q0, hargs, rfl, rfl, h0, r0⟩ := trodAll_cons hA
  obtain ⟨v1, vs1, d1, ds1, p1, q1, rfl, rfl, rfl, h1, r1⟩ := trodAll_cons r0
  obtain ⟨v2, vs2, d2, ds2, p2, q2, rfl, rfl, rfl, h2, r2⟩ := trodAll_cons r1
  obtain ⟨v3, vs3, d3, ds3, p3, q3, rfl, rfl, rfl, h3, r3⟩ := trodAll_cons r2
  obtain ⟨rfl, rfl, rfl⟩ := trodAll_nil r3
  obtain rfl : args = #[v0, v1, v2, v3] := by cases args; simp_all
  obtain ⟨rfl, rfl⟩ := trodVars_none hV
  obtain ⟨a0, n0, c0, rfl⟩ := okWide_slice Try.underlying27 (hval 0 27 v0 rfl rfl)
  obtain ⟨a1, n1, c1, rfl⟩ := okWide_slice Try.underlying25 (hval 1 25 v1 rfl rfl)
  obtain ⟨a2, n2, c2, rfl⟩ := okWide_slice Try.underlying27 (hval 2 27 v2 rfl rfl)
  obtain ⟨n3, rfl⟩ := okWide_int Try.underlying3 (hval 3 3 v3 rfl rfl)
  have lt0 : ∀ x ∈ p0, x.block < W.heap.size := by obtain ⟨m, hm⟩ := h0; exact DataW.trod_lt m _ _ _ hm
  have lt1 : ∀ x ∈ p1, x.block < W.heap.size := by obtain ⟨m, hm⟩ := h1; exact DataW.trod_lt m _ _ _ hm
  have lt2 : ∀ x ∈ p2, x.block < W.heap.size := by obtain ⟨m, hm⟩ := h2; exact DataW.trod_lt m _ _ _ hm
  have lt3 : ∀ x ∈ p3, x.block < W.heap.size := by obtain ⟨m, hm⟩ := h3; exact DataW.trod_lt m _ _ _ hm
  obtain ⟨l0, w0⟩ := arg_ints h0
  obtain ⟨l1, w1⟩ := arg_deeds h1
  obtain ⟨l2, w2⟩ := arg_ints h2
  have w3 : -9223372036854775808 ≤ n3 ∧ n3 ≤ 9223372036854775807 := by obtain ⟨m, hm⟩ := h3; exact wf_i64 Try.underlying3 hm
  clear hA0 hval0
  refine (handsFree_walk l0 l1 l2 n3 _ _ _ W w0 w1 w2 w3).mono fun e W' ⟨he, bel⟩ => ?_
  subst he
  exact ⟨_, rfl, _, _, _, [], _, [], hW', trodAll_mk1 (shut_bool Try.underlying4 _), (trodAll_cons_mk (Below.trod laidOut (by kernel_rfl) (of_decide_eq_true (by kernel_rfl)) h0 bel lt0) (trodAll_cons_mk (Below.trod laidOut (by kernel_rfl) (of_decide_eq_true (by kernel_rfl)) h1 bel lt1) (trodAll_cons_mk (Below.trod laidOut (by kernel_rfl) (of_decide_eq_true (by kernel_rfl)) h2 bel lt2) (trodAll_cons_mk (Below.trod laidOut (by kernel_rfl) (of_decide_eq_true (by kernel_rfl)) h3 bel lt3) trodAll_mk0)))), rfl, bel.frame _, fun h => by cases h⟩

set_option maxRecDepth 100000 in
set_option maxHeartbeats 8000000 in
theorem handsFree_closed : joinedFacts Try.checked.prog 6 Try.f6 Rows.handsFreeSpec Rows.handsFreeRow = true := by
  unfold joinedFacts
  repeat' (with_reducible refine and_true_of ?_ ?_)
  all_goals (as_aux_lemma => kernel_rfl)
theorem handsFree_over : Rows.handsFreeRow.holds Try.pinned (OpenSpec.ofChange Rows.handsFreeSpec) :=
  OpenClaim.holds_of_wide 6 Try.f6 rfl rfl rfl rfl rfl rfl rfl ⟨rfl, rfl, rfl, rfl, rfl⟩ rfl rfl rfl rfl rfl (by as_aux_lemma => kernel_rfl) Try.func6 handsFree_closed
    (of_decide_eq_true (by as_aux_lemma => kernel_rfl)) (by as_aux_lemma => unfold Func.isWrapper; first | (rw [if_pos (by decide +kernel)]; kernel_rfl) | (rw [if_neg (by decide +kernel)]; exact ⟨rfl, rfl⟩))
    (fun os started H enc _ => handsFree_lifted os started H enc)
theorem handsFree_proved : Rows.HandsFreeSaid := handsFree_over
#print axioms handsFree_proved
end Go.Proofs.Ytoihdnekkgpcoaa
