/-
  half's next: what it answers. Conditions: the set reads as a rising list (HR).
  half's prev: what it answers. Conditions: the set reads as a rising list (HR).
  A result of type api.Ans that stands in a cell of the call's own: its block after the store, what is kept. Conditions: none.
  half's told; what do answers (hDo). Conditions: none.
-/
import Derived.Test.YtmhabjjabdambaaG4
import Derived.Test.YtmhabjjabdambaaG5
import Derived.Test.YtmhabjjabdambaaG3
import Derived.Laws.Tables
import Derived.Test.YtmhabjjabdambaaG8
import Derived.Test.YtmhabjjabdambaaG2

namespace Go.Proofs.Ytmhabjjabdambaa
open Go.ChangeShapes Go.WideShapes Go.ChangeAt Go.RowKit
set_option linter.unusedVariables false
set_option linter.unusedSimpArgs false

def nxV : Option Int → Value
  | some k => .tuple #[.int .i64 k, .bool true]
  | none => .tuple #[.int .i64 0, .bool false]
theorem HR.parts {ty : TypeId} {n : Nat} {w : World} {E : List HE} (h : ∀ e ∈ E, HR ty n w e.S e.b e.F ∧ 0 ≤ e.h ∧ e.h < UU n) : ∀ e ∈ E, UpL e.S ∧ ∀ v ∈ e.S, 0 ≤ v ∧ v < UU n := fun e he => by
  obtain ⟨an, le, mo, mv, hv, h1, _⟩ := (h e he).1.hb
  exact ⟨h1.1, h1.2.1⟩
theorem cellN {w : World} {m : Nat} {p : Addr} {v : Value} (h : w.cell? p = some v) : (w.drewN m).cell? p = some v := h
theorem nx_some {S : List Int} {x m : Int} (hm : m ∈ S) (hx : x < m) : ∃ k, nxU S x = some k := by
  cases h : nxU S x with
  | some k => exact ⟨k, rfl⟩
  | none => exact absurd hx (nxU_none.1 h m hm)
theorem pv_some {S : List Int} {x m : Int} (hm : m ∈ S) (hx : m < x) : ∃ k, pvU S x = some k := by
  cases h : pvU S x with
  | some k => exact ⟨k, rfl⟩
  | none => exact absurd hx (pvU_none.1 h m hm)
set_option maxRecDepth 100000 in
set_option maxHeartbeats 8000000 in
theorem hnext_any (n : Nat) : ∀ (hn : n ≤ 4) (S : List Int) (b : Nat) (F : List Nat) (x : Int) (w : World), HR 57 n w S b F → 0 ≤ x → x < UU n → Calls Try.prog 34 #[.pointer (some ⟨b, 0, none⟩), .int .i64 x] w (RetQ (nxV (nxU S x)) w) := by
  induction n with
  | zero =>
    rintro hn S b F x w ⟨an, le, mo, hb, hc, rfl⟩ h0 h1
    have c0 := hc.cell 0
    have c1 := hc.cell 1
    have c2 := hc.cell 2
    have c3 := hc.cell 3
    simp only [hC, List.getElem?_cons_zero, List.getElem?_cons_succ] at c0 c1 c2 c3
    have c0' : w.cell? ⟨b, 0, none⟩ = some (.int .i64 1) := c0
    cases an with
    | false =>
      have hS := hb.no
      subst hS
      have HD : Hid (nxU ([] : List Int) x = none) := hide rfl
      clear hb hc c0
      go_enter Try.func34, Try.ntmps34
      go_wp2
      go_ret2
      exact ⟨by rw [HD.out]; rfl, 0, rfl⟩
    | true =>
      obtain ⟨b1, b2, b3, b4⟩ := hb
      obtain ⟨q1, q2, q3⟩ := b4 rfl
      rw [UU_0] at h1 b2
      by_cases e1 : mo ≤ x
      · have HD : Hid (nxU S x = none) := hide (nxU_none.2 fun y hy h => by have := q3 y hy; omega)
        have d1 : decide (mo ≤ x) = true := decide_eq_true e1
        clear hc c0 b1 b2 b3 b4 q1 q2 q3 e1
        go_enter Try.func34, Try.ntmps34
        go_wp2
        go_ret2
        exact ⟨by rw [HD.out]; rfl, 0, rfl⟩
      · have d1 : decide (mo ≤ x) = false := decide_eq_false e1
        by_cases e2 : x < le
        · have HD : Hid (nxU S x = some le) := hide ((nxU_iff b1).2 ⟨q1, e2, fun y hy _ => (q3 y hy).1⟩)
          have d2 : decide (x < le) = true := decide_eq_true e2
          clear hc c0 b1 b2 b3 b4 q1 q2 q3 e1 e2
          go_enter Try.func34, Try.ntmps34
          go_wp2
          go_ret2
          exact ⟨by rw [HD.out]; rfl, 0, rfl⟩
        · have d2 : decide (x < le) = false := decide_eq_false e2
          have HD : Hid (nxU S x = some 1) := hide ((nxU_iff b1).2 (by
            have h5 := b2 mo q2
            have h6 := b2 le q1
            have : mo = 1 := by omega
            exact ⟨this ▸ q2, by omega, fun y hy hxy => by have := b2 y hy; omega⟩))
          clear hc c0 b1 b2 b3 b4 q1 q2 q3 e1 e2
          go_enter Try.func34, Try.ntmps34
          go_wp2
          go_ret2
          exact ⟨by rw [HD.out]; rfl, 0, rfl⟩
  | succ n ih =>
    intro hn S b F x w hr h0 h1
    obtain ⟨an, le, mo, hb, hcase⟩ := hr
    have HIH := hide (ih (by omega))
    clear ih
    obtain ⟨mv, hv, hc⟩ : ∃ mv hv, BC w b 57 (hC (n + 1) an le mo mv hv) := by
      rcases hcase with ⟨h2, _⟩ | ⟨m, hb', Hs, Fh, E, a1, _⟩
      · exact ⟨_, _, h2⟩
      · exact ⟨_, _, a1⟩
    have c0 := hc.cell 0
    have c1 := hc.cell 1
    have c2 := hc.cell 2
    have c3 := hc.cell 3
    simp only [hC, List.getElem?_cons_zero, List.getElem?_cons_succ] at c0 c1 c2 c3
    obtain ⟨bs, hbs⟩ : ∃ bs : Int, bs = ((2 ^ (n + 1) : Nat) : Int) := ⟨_, rfl⟩
    have HHV := hide (fun W (k : W.cell? ⟨b, 0, none⟩ = some (.int .i64 ((2 ^ (n + 1) : Nat) : Int))) => halves_any n (by omega) b x W k h0 h1)
    have HWH := hide (fun h l W (k : W.cell? ⟨b, 0, none⟩ = some (.int .i64 ((2 ^ (n + 1) : Nat) : Int))) k1 k2 k3 k4 => whole_any n (by omega) b h l W k k1 k2 k3 k4)
    rw [← hbs] at c0 HHV HWH
    have hb1 : (bs == 1) = false := by
      rw [hbs]
      have := Nat.pow_lt_pow_right (show 1 < 2 by decide) (show 0 < n + 1 by omega)
      exact beq_eq_false_iff_ne.2 (by omega)
    cases an with
    | false =>
      have hS := hb.no
      subst hS
      have HD : Hid (nxU ([] : List Int) x = none) := hide rfl
      clear hb hc hbs hb1 hcase
      go_enter Try.func34, Try.ntmps34
      go_wp2
      go_ret2
      exact ⟨by rw [HD.out]; rfl, 0, rfl⟩
    | true =>
      obtain ⟨b1, b2, b3, b4⟩ := hb
      obtain ⟨q1, q2, q3⟩ := b4 rfl
      by_cases e1 : mo ≤ x
      · have HD : Hid (nxU S x = none) := hide (nxU_none.2 fun y hy h => by have := q3 y hy; omega)
        have d1 : decide (mo ≤ x) = true := decide_eq_true e1
        clear hc hbs hb1 hcase b1 b2 b3 b4 q1 q2 q3 e1
        go_enter Try.func34, Try.ntmps34
        go_wp2
        go_ret2
        exact ⟨by rw [HD.out]; rfl, 0, rfl⟩
      · have d1 : decide (mo ≤ x) = false := decide_eq_false e1
        by_cases e2 : x < le
        · have HD : Hid (nxU S x = some le) := hide ((nxU_iff b1).2 ⟨q1, e2, fun y hy _ => (q3 y hy).1⟩)
          have d2 : decide (x < le) = true := decide_eq_true e2
          clear hc hbs hb1 hcase b1 b2 b3 b4 q1 q2 q3 e1 e2
          go_enter Try.func34, Try.ntmps34
          go_wp2
          go_ret2
          exact ⟨by rw [HD.out]; rfl, 0, rfl⟩
        · have d2 : decide (x < le) = false := decide_eq_false e2
          rcases hcase with ⟨h2, _, h4⟩ | ⟨m, hb', Hs, Fh, E, a1, a2, a3, a4, a5, a6, a7, a8⟩
          · exfalso
            have := h4 rfl mo q2
            omega
          · have z4 := a1.cell 4
            have z5 := a1.cell 5
            simp only [hC, List.getElem?_cons_zero, List.getElem?_cons_succ] at z4 z5
            have hM := UU_pos n
            have hsp := half_in (M := UU n) (by omega) h0 (by rw [UU] at h1; exact h1)
            have HLK := hide (fun k y => (a2.kf (w' := w.drewN k) (Kf.of (F := fun _ => False) (Kp.refl w).drewN) (fun h => h)).lookup (P := Try.prog) Try.underlying55 Try.underlying3 (hptr_zero _) y)
            have hpr := HR.parts a4
            have HN1 : Hid (∀ e, e ∈ E → e.h = x / UU n → ∀ y, nxU e.S (x % UU n) = some y → nxU S x = some (e.h * UU n + y)) := hide (fun e he hh y hy => a8.next1 b1 b2 (by omega) h0 h1 hpr a5 he hh hy)
            have HHS := hide a3
            have hbh := a3.hb
            obtain ⟨_, _, _, _, _, hhb, _⟩ := hbh
            have hHs := hhb.1
            have hHr := hhb.2.1
            have HN2 := hide (fun (hno : ∀ e ∈ E, e.h = x / UU n → nxU e.S (x % UU n) = none) => by
              obtain ⟨q, hq, z, hz, z0, z1, hzz⟩ := a8.split b2 q2 (by omega)
              have hlt : x / UU n < q.h := by
                have h5 := hsp.2.2.2.2
                have h6 : x / UU n * UU n + x % UU n < q.h * UU n + z := by omega
                rw [half_lt (by omega) hsp.2.2.1 hsp.2.2.2.1 z0 z1] at h6
                rcases h6 with h6 | ⟨h6, h7⟩
                · exact h6
                · exact absurd h7 (nxU_none.1 (hno q hq h6.symm) z hz)
              obtain ⟨k, hk⟩ := nx_some ((a8.2 q.h).2 ⟨q, hq, rfl, fun h => by rw [h] at hz; cases hz⟩) hlt
              obtain ⟨k1, k2, k3⟩ := (nxU_iff hHs).1 hk
              obtain ⟨e, he, f1, f2⟩ := (a8.2 k).1 k1
              subst f1
              obtain ⟨an', le', mo', mv', hv', hbe, hce⟩ := (a4 e he).1.hb
              have han : an' = true := hbe.2.2.1.2 f2
              obtain ⟨g1, g2, g3⟩ := hbe.2.2.2 han
              exact (⟨e, he, hk, (lkP_some a5).2 ⟨e, he, rfl, rfl⟩, le', by have := hce.cell 2; simpa [hC] using this, hbe.2.1 le' g1, a8.next2 b1 b2 (by omega) h0 h1 hpr a5 hHs hno he hk g1 (fun v hv => (g3 v hv).1)⟩ :
                ∃ e ∈ E, nxU Hs (x / UU n) = some e.h ∧ lkP (E.map fun e => (e.h, e.b)) e.h = some e.b ∧ ∃ le', w.cell? ⟨e.b, 2, none⟩ = some (.int .i64 le') ∧ (0 ≤ le' ∧ le' < UU n) ∧ nxU S x = some (e.h * UU n + le')))
            have HEN := hide a4
            obtain ⟨r, hr⟩ : ∃ r, r = lkP (E.map fun e => (e.h, e.b)) (x / UU n) := ⟨_, rfl⟩
            have HLX := hide (fun k => HLK.out k (x / UU n))
            rw [← hr] at HLX
            have HX := hide hsp
            cases r with
            | none =>
              have hno : ∀ e ∈ E, e.h = x / UU n → nxU e.S (x % UU n) = none := fun e he h => absurd h (lkP_none.1 hr.symm e he)
              obtain ⟨e, he, k1, k2, le', k3, k4, k5⟩ := HN2.out hno
              have HK1 := hide k1
              have HK2 := hide k2
              have HK3 := hide k3
              have HK4 := hide k4
              have HD := hide k5
              have HEH := hide (HEN.out e he).2
              clear hc hbs b1 b2 b3 b4 q1 q2 q3 e1 e2 a1 a2 a3 a4 a5 a6 a7 a8 hr hsp hno k1 k2 k3 k4 k5 hpr hHs hHr hhb
              go_enter Try.func34, Try.ntmps34
              go_wp2_with fail
              with_reducible refine (HHV.out w c0).mono ?_
              rintro e9 w1 ⟨rfl, m1, rfl⟩
              have hlk := HLX.out m1
              simp only [Option.map_none] at hlk
              go_wp2_with fail
              with_reducible refine (HIH.out Hs hb' Fh (x / UU n) (w.drewN m1) (HHS.out.drewN m1) HX.out.1 HX.out.2.1).mono ?_
              rintro e9 w2 ⟨rfl, m2, rfl⟩
              rw [HK1.out]
              simp only [nxV]
              have hlk2 := HLK.out (m1 + m2) e.h
              rw [HK2.out] at hlk2
              simp only [Option.map_some] at hlk2
              have hdd : (w.drewN m1).drewN m2 = w.drewN (m1 + m2) := by simp [World.drewN, Nat.add_assoc]
              rw [hdd]
              have k3' : (w.drewN (m1 + m2)).cell? ⟨e.b, 2, none⟩ = some (.int .i64 le') := HK3.out
              go_wp2_with fail
              with_reducible refine (HWH.out e.h le' (w.drewN (m1 + m2)) (cellN c0) HEH.out.1 HEH.out.2 HK4.out.1 HK4.out.2).mono ?_
              rintro e9 w3 ⟨rfl, rfl⟩
              go_wp2
              go_ret2
              exact ⟨by rw [HD.out]; rfl, m1 + m2, rfl⟩
            | some pb =>
              obtain ⟨e0, he0, f1, f2⟩ := (lkP_some a5).1 hr.symm
              obtain ⟨an', le0, mo0, mv', hv', hbe, hce⟩ := (a4 e0 he0).1.hb
              rw [f2] at hce
              have p1 := hce.cell 1
              have p3 := hce.cell 3
              simp only [hC, List.getElem?_cons_zero, List.getElem?_cons_succ] at p1 p3
              by_cases hyes : an' = true ∧ x % UU n < mo0
              · obtain ⟨rfl, hlm⟩ := hyes
                obtain ⟨g1, g2, g3⟩ := hbe.2.2.2 rfl
                obtain ⟨y, hy⟩ := nx_some g2 hlm
                have hyi := hbe.2.1 y ((nxU_iff hbe.1).1 hy).1
                have HD := hide (HN1.out e0 he0 f1 y hy)
                have HRE := hide (a4 e0 he0).1
                rw [f2] at HRE
                rw [f1] at HD
                have HY := hide hy
                have HYI := hide hyi
                have d5 : decide (x % UU n < mo0) = true := decide_eq_true hlm
                clear hc hbs b1 b2 b3 b4 q1 q2 q3 e1 e2 a1 a2 a3 a4 a5 a6 a7 a8 hr hsp hpr hHs hHr hhb hce hbe g1 g2 g3 hy hyi hlm
                go_enter Try.func34, Try.ntmps34
                go_wp2_with fail
                with_reducible refine (HHV.out w c0).mono ?_
                rintro e9 w1 ⟨rfl, m1, rfl⟩
                have hlk := HLX.out m1
                simp only [Option.map_some] at hlk
                go_wp2_with fail
                with_reducible refine (HIH.out e0.S pb e0.F (x % UU n) (w.drewN m1) (HRE.out.drewN m1) HX.out.2.2.1 HX.out.2.2.2.1).mono ?_
                rintro e9 w2 ⟨rfl, m2, rfl⟩
                rw [HY.out]
                simp only [nxV]
                go_wp2_with fail
                with_reducible refine (HWH.out (x / UU n) y (w.drewN (m1 + m2)) (cellN c0) HX.out.1 HX.out.2.1 HYI.out.1 HYI.out.2).mono ?_
                rintro e9 w3 ⟨rfl, rfl⟩
                go_wp2
                go_ret2
                exact ⟨by rw [HD.out]; rfl, m1 + m2, by simp [World.drewN]⟩
              · have hno : ∀ e ∈ E, e.h = x / UU n → nxU e.S (x % UU n) = none := fun e he h => by
                  have : e = e0 := one_of a5 he he0 (by rw [h, f1])
                  subst this
                  rw [nxU_none]
                  intro v hv hlt
                  have han : an' = true := hbe.2.2.1.2 (fun h => by rw [h] at hv; cases hv)
                  exact hyes ⟨han, by have := (hbe.2.2.2 han).2.2 v hv; omega⟩
                obtain ⟨e, he, k1, k2, le', k3, k4, k5⟩ := HN2.out hno
                have HK1 := hide k1
                have HK2 := hide k2
                have HK3 := hide k3
                have HK4 := hide k4
                have HD := hide k5
                have HEH := hide (HEN.out e he).2
                cases an' with
                | false =>
                  clear hc hbs b1 b2 b3 b4 q1 q2 q3 e1 e2 a1 a2 a3 a4 a5 a6 a7 a8 hr hsp hno k1 k2 k3 k4 k5 hpr hHs hHr hhb hyes hbe hce
                  go_enter Try.func34, Try.ntmps34
                  go_wp2_with fail
                  with_reducible refine (HHV.out w c0).mono ?_
                  rintro e9 w1 ⟨rfl, m1, rfl⟩
                  have hlk := HLX.out m1
                  simp only [Option.map_some] at hlk
                  go_wp2_with fail
                  with_reducible refine (HIH.out Hs hb' Fh (x / UU n) (w.drewN m1) (HHS.out.drewN m1) HX.out.1 HX.out.2.1).mono ?_
                  rintro e9 w2 ⟨rfl, m2, rfl⟩
                  rw [HK1.out]
                  simp only [nxV]
                  have hlk2 := HLK.out (m1 + m2) e.h
                  rw [HK2.out] at hlk2
                  simp only [Option.map_some] at hlk2
                  have hdd : (w.drewN m1).drewN m2 = w.drewN (m1 + m2) := by simp [World.drewN, Nat.add_assoc]
                  rw [hdd]
                  have k3' : (w.drewN (m1 + m2)).cell? ⟨e.b, 2, none⟩ = some (.int .i64 le') := HK3.out
                  go_wp2_with fail
                  with_reducible refine (HWH.out e.h le' (w.drewN (m1 + m2)) (cellN c0) HEH.out.1 HEH.out.2 HK4.out.1 HK4.out.2).mono ?_
                  rintro e9 w3 ⟨rfl, rfl⟩
                  go_wp2
                  go_ret2
                  exact ⟨by rw [HD.out]; rfl, m1 + m2, rfl⟩
                | true =>
                  have d5 : decide (x % UU n < mo0) = false := decide_eq_false (fun h => hyes ⟨rfl, h⟩)
                  clear hc hbs b1 b2 b3 b4 q1 q2 q3 e1 e2 a1 a2 a3 a4 a5 a6 a7 a8 hr hsp hno k1 k2 k3 k4 k5 hpr hHs hHr hhb hyes hbe hce
                  go_enter Try.func34, Try.ntmps34
                  go_wp2_with fail
                  with_reducible refine (HHV.out w c0).mono ?_
                  rintro e9 w1 ⟨rfl, m1, rfl⟩
                  have hlk := HLX.out m1
                  simp only [Option.map_some] at hlk
                  go_wp2_with fail
                  with_reducible refine (HIH.out Hs hb' Fh (x / UU n) (w.drewN m1) (HHS.out.drewN m1) HX.out.1 HX.out.2.1).mono ?_
                  rintro e9 w2 ⟨rfl, m2, rfl⟩
                  rw [HK1.out]
                  simp only [nxV]
                  have hlk2 := HLK.out (m1 + m2) e.h
                  rw [HK2.out] at hlk2
                  simp only [Option.map_some] at hlk2
                  have hdd : (w.drewN m1).drewN m2 = w.drewN (m1 + m2) := by simp [World.drewN, Nat.add_assoc]
                  rw [hdd]
                  have k3' : (w.drewN (m1 + m2)).cell? ⟨e.b, 2, none⟩ = some (.int .i64 le') := HK3.out
                  go_wp2_with fail
                  with_reducible refine (HWH.out e.h le' (w.drewN (m1 + m2)) (cellN c0) HEH.out.1 HEH.out.2 HK4.out.1 HK4.out.2).mono ?_
                  rintro e9 w3 ⟨rfl, rfl⟩
                  go_wp2
                  go_ret2
                  exact ⟨by rw [HD.out]; rfl, m1 + m2, rfl⟩
end Go.Proofs.Ytmhabjjabdambaa
namespace Go.Proofs.Ytmhabjjabdambaa
open Go.ChangeShapes Go.WideShapes Go.ChangeAt Go.RowKit
set_option linter.unusedVariables false
set_option linter.unusedSimpArgs false

set_option maxRecDepth 100000 in
set_option maxHeartbeats 8000000 in
theorem hprev_any (n : Nat) : ∀ (hn : n ≤ 4) (S : List Int) (b : Nat) (F : List Nat) (x : Int) (w : World), HR 57 n w S b F → 0 ≤ x → x < UU n → Calls Try.prog 35 #[.pointer (some ⟨b, 0, none⟩), .int .i64 x] w (RetQ (nxV (pvU S x)) w) := by
  induction n with
  | zero =>
    rintro hn S b F x w ⟨an, le, mo, hb, hc, rfl⟩ h0 h1
    have c0 := hc.cell 0
    have c1 := hc.cell 1
    have c2 := hc.cell 2
    have c3 := hc.cell 3
    simp only [hC, List.getElem?_cons_zero, List.getElem?_cons_succ] at c0 c1 c2 c3
    have c0' : w.cell? ⟨b, 0, none⟩ = some (.int .i64 1) := c0
    cases an with
    | false =>
      have hS := hb.no
      subst hS
      have HD : Hid (pvU ([] : List Int) x = none) := hide rfl
      clear hb hc c0
      go_enter Try.func35, Try.ntmps35
      go_wp2
      go_ret2
      exact ⟨by rw [HD.out]; rfl, 0, rfl⟩
    | true =>
      obtain ⟨b1, b2, b3, b4⟩ := hb
      obtain ⟨q1, q2, q3⟩ := b4 rfl
      rw [UU_0] at h1 b2
      by_cases e1 : x ≤ le
      · have HD : Hid (pvU S x = none) := hide (pvU_none.2 fun y hy h => by have := q3 y hy; omega)
        have d1 : decide (x ≤ le) = true := decide_eq_true e1
        clear hc c0 b1 b2 b3 b4 q1 q2 q3 e1
        go_enter Try.func35, Try.ntmps35
        go_wp2
        go_ret2
        exact ⟨by rw [HD.out]; rfl, 0, rfl⟩
      · have d1 : decide (x ≤ le) = false := decide_eq_false e1
        by_cases e2 : mo < x
        · have HD : Hid (pvU S x = some mo) := hide ((pvU_iff b1).2 ⟨q2, e2, fun y hy _ => (q3 y hy).2⟩)
          have d2 : decide (mo < x) = true := decide_eq_true e2
          clear hc c0 b1 b2 b3 b4 q1 q2 q3 e1 e2
          go_enter Try.func35, Try.ntmps35
          go_wp2
          go_ret2
          exact ⟨by rw [HD.out]; rfl, 0, rfl⟩
        · have d2 : decide (mo < x) = false := decide_eq_false e2
          have HD : Hid (pvU S x = some 0) := hide ((pvU_iff b1).2 (by
            have h5 := b2 mo q2
            have h6 := b2 le q1
            have : le = 0 := by omega
            exact ⟨this ▸ q1, by omega, fun y hy hxy => by have := b2 y hy; omega⟩))
          clear hc c0 b1 b2 b3 b4 q1 q2 q3 e1 e2
          go_enter Try.func35, Try.ntmps35
          go_wp2
          go_ret2
          exact ⟨by rw [HD.out]; rfl, 0, rfl⟩
  | succ n ih =>
    intro hn S b F x w hr h0 h1
    obtain ⟨an, le, mo, hb, hcase⟩ := hr
    have HIH := hide (ih (by omega))
    clear ih
    obtain ⟨mv, hv, hc⟩ : ∃ mv hv, BC w b 57 (hC (n + 1) an le mo mv hv) := by
      rcases hcase with ⟨h2, _⟩ | ⟨m, hb', Hs, Fh, E, a1, _⟩
      · exact ⟨_, _, h2⟩
      · exact ⟨_, _, a1⟩
    have c0 := hc.cell 0
    have c1 := hc.cell 1
    have c2 := hc.cell 2
    have c3 := hc.cell 3
    simp only [hC, List.getElem?_cons_zero, List.getElem?_cons_succ] at c0 c1 c2 c3
    obtain ⟨bs, hbs⟩ : ∃ bs : Int, bs = ((2 ^ (n + 1) : Nat) : Int) := ⟨_, rfl⟩
    have HHV := hide (fun W (k : W.cell? ⟨b, 0, none⟩ = some (.int .i64 ((2 ^ (n + 1) : Nat) : Int))) => halves_any n (by omega) b x W k h0 h1)
    have HWH := hide (fun h l W (k : W.cell? ⟨b, 0, none⟩ = some (.int .i64 ((2 ^ (n + 1) : Nat) : Int))) k1 k2 k3 k4 => whole_any n (by omega) b h l W k k1 k2 k3 k4)
    rw [← hbs] at c0 HHV HWH
    have hb1 : (bs == 1) = false := by
      rw [hbs]
      have := Nat.pow_lt_pow_right (show 1 < 2 by decide) (show 0 < n + 1 by omega)
      exact beq_eq_false_iff_ne.2 (by omega)
    cases an with
    | false =>
      have hS := hb.no
      subst hS
      have HD : Hid (pvU ([] : List Int) x = none) := hide rfl
      clear hb hc hbs hb1 hcase
      go_enter Try.func35, Try.ntmps35
      go_wp2
      go_ret2
      exact ⟨by rw [HD.out]; rfl, 0, rfl⟩
    | true =>
      obtain ⟨b1, b2, b3, b4⟩ := hb
      obtain ⟨q1, q2, q3⟩ := b4 rfl
      by_cases e1 : x ≤ le
      · have HD : Hid (pvU S x = none) := hide (pvU_none.2 fun y hy h => by have := q3 y hy; omega)
        have d1 : decide (x ≤ le) = true := decide_eq_true e1
        clear hc hbs hb1 hcase b1 b2 b3 b4 q1 q2 q3 e1
        go_enter Try.func35, Try.ntmps35
        go_wp2
        go_ret2
        exact ⟨by rw [HD.out]; rfl, 0, rfl⟩
      · have d1 : decide (x ≤ le) = false := decide_eq_false e1
        by_cases e2 : mo < x
        · have HD : Hid (pvU S x = some mo) := hide ((pvU_iff b1).2 ⟨q2, e2, fun y hy _ => (q3 y hy).2⟩)
          have d2 : decide (mo < x) = true := decide_eq_true e2
          clear hc hbs hb1 hcase b1 b2 b3 b4 q1 q2 q3 e1 e2
          go_enter Try.func35, Try.ntmps35
          go_wp2
          go_ret2
          exact ⟨by rw [HD.out]; rfl, 0, rfl⟩
        · have d2 : decide (mo < x) = false := decide_eq_false e2
          rcases hcase with ⟨h2, _, h4⟩ | ⟨m, hb', Hs, Fh, E, a1, a2, a3, a4, a5, a6, a7, a8⟩
          · exfalso
            have := h4 rfl mo q2
            omega
          · have z4 := a1.cell 4
            have z5 := a1.cell 5
            simp only [hC, List.getElem?_cons_zero, List.getElem?_cons_succ] at z4 z5
            have hM := UU_pos n
            have hsp := half_in (M := UU n) (by omega) h0 (by rw [UU] at h1; exact h1)
            have HLK := hide (fun k y => (a2.kf (w' := w.drewN k) (Kf.of (F := fun _ => False) (Kp.refl w).drewN) (fun h => h)).lookup (P := Try.prog) Try.underlying55 Try.underlying3 (hptr_zero _) y)
            have hpr := HR.parts a4
            have HN1 : Hid (∀ e, e ∈ E → e.h = x / UU n → ∀ y, pvU e.S (x % UU n) = some y → pvU S x = some (e.h * UU n + y)) := hide (fun e he hh y hy => a8.prev1 b1 b2 (fun v hv => (q3 v hv).1) h0 h1 hpr a5 he hh hy)
            have HHS := hide a3
            have hbh := a3.hb
            obtain ⟨_, _, _, _, _, hhb, _⟩ := hbh
            have hHs := hhb.1
            have hHr := hhb.2.1
            have HN2 : Hid ((∀ e ∈ E, e.h = x / UU n → pvU e.S (x % UU n) = none) → (∃ e ∈ E, pvU Hs (x / UU n) = some e.h ∧ lkP (E.map fun e => (e.h, e.b)) e.h = some e.b ∧ ∃ le', w.cell? ⟨e.b, 3, none⟩ = some (.int .i64 le') ∧ (0 ≤ le' ∧ le' < UU n) ∧ pvU S x = some (e.h * UU n + le')) ∨ (pvU Hs (x / UU n) = none ∧ pvU S x = some le)) := hide (fun hno => by
              cases hk : pvU Hs (x / UU n) with
              | none => exact .inr ⟨rfl, a8.prev3 b1 b2 (fun v hv => (q3 v hv).1) q1 (by omega) h0 h1 hHs hno hk⟩
              | some k =>
                obtain ⟨k1, k2, k3⟩ := (pvU_iff hHs).1 hk
                obtain ⟨e, he, f1, f2⟩ := (a8.2 k).1 k1
                subst f1
                obtain ⟨an', le', mo', mv', hv', hbe, hce⟩ := (a4 e he).1.hb
                have han : an' = true := hbe.2.2.1.2 f2
                obtain ⟨g1, g2, g3⟩ := hbe.2.2.2 han
                exact .inl ⟨e, he, rfl, (lkP_some a5).2 ⟨e, he, rfl, rfl⟩, mo', by have := hce.cell 3; simpa [hC] using this, hbe.2.1 mo' g2, a8.prev2 b1 b2 (fun v hv => (q3 v hv).1) h0 h1 hpr a5 hHs hno he hk g2 (fun v hv => (g3 v hv).2)⟩)
            have HEN := hide a4
            obtain ⟨r, hr⟩ : ∃ r, r = lkP (E.map fun e => (e.h, e.b)) (x / UU n) := ⟨_, rfl⟩
            have HLX := hide (fun k => HLK.out k (x / UU n))
            rw [← hr] at HLX
            have HX := hide hsp
            cases r with
            | none =>
              have hno : ∀ e ∈ E, e.h = x / UU n → pvU e.S (x % UU n) = none := fun e he h => absurd h (lkP_none.1 hr.symm e he)
              have HNN := hide (HN2.out hno)
              clear hc hbs b1 b2 b3 b4 q1 q2 q3 e1 e2 a1 a2 a3 a4 a5 a6 a7 a8 hr hsp hno hpr hHs hHr hhb
              go_enter Try.func35, Try.ntmps35
              go_wp2_with fail
              with_reducible refine (HHV.out w c0).mono ?_
              rintro e9 w1 ⟨rfl, m1, rfl⟩
              have hlk := HLX.out m1
              simp only [Option.map_none] at hlk
              go_wp2_with fail
              with_reducible refine (HIH.out Hs hb' Fh (x / UU n) (w.drewN m1) (HHS.out.drewN m1) HX.out.1 HX.out.2.1).mono ?_
              rintro e9 w2 ⟨rfl, m2, rfl⟩
              have hdd : (w.drewN m1).drewN m2 = w.drewN (m1 + m2) := by simp [World.drewN, Nat.add_assoc]
              rw [hdd]
              rcases HNN.out with ⟨e, he, k1, k2, le', k3, k4, k5⟩ | ⟨k1, k5⟩
              · have HD := hide k5
                have HEH := hide (HEN.out e he).2
                have HK4 := hide k4
                have hlk2 := HLK.out (m1 + m2) e.h
                rw [k2] at hlk2
                simp only [Option.map_some] at hlk2
                rw [k1]
                simp only [nxV]
                have k3' : (w.drewN (m1 + m2)).cell? ⟨e.b, 3, none⟩ = some (.int .i64 le') := cellN k3
                clear k1 k2 k3 k4 k5
                go_wp2_with fail
                with_reducible refine (HWH.out e.h le' (w.drewN (m1 + m2)) (cellN c0) HEH.out.1 HEH.out.2 HK4.out.1 HK4.out.2).mono ?_
                rintro e9 w3 ⟨rfl, rfl⟩
                go_wp2
                go_ret2
                exact ⟨by rw [HD.out]; rfl, m1 + m2, rfl⟩
              · have HD := hide k5
                rw [k1]
                simp only [nxV]
                clear k1 k5
                go_wp2
                go_ret2
                exact ⟨by rw [HD.out]; rfl, m1 + m2, rfl⟩
            | some pb =>
              obtain ⟨e0, he0, f1, f2⟩ := (lkP_some a5).1 hr.symm
              obtain ⟨an', le0, mo0, mv', hv', hbe, hce⟩ := (a4 e0 he0).1.hb
              rw [f2] at hce
              have p1 := hce.cell 1
              have p3 := hce.cell 2
              simp only [hC, List.getElem?_cons_zero, List.getElem?_cons_succ] at p1 p3
              by_cases hyes : an' = true ∧ le0 < x % UU n
              · obtain ⟨rfl, hlm⟩ := hyes
                obtain ⟨g1, g2, g3⟩ := hbe.2.2.2 rfl
                obtain ⟨y, hy⟩ := pv_some g1 hlm
                have hyi := hbe.2.1 y ((pvU_iff hbe.1).1 hy).1
                have HD := hide (HN1.out e0 he0 f1 y hy)
                have HRE := hide (a4 e0 he0).1
                rw [f2] at HRE
                rw [f1] at HD
                have HY := hide hy
                have HYI := hide hyi
                have d5 : decide (le0 < x % UU n) = true := decide_eq_true hlm
                clear hc hbs b1 b2 b3 b4 q1 q2 q3 e1 e2 a1 a2 a3 a4 a5 a6 a7 a8 hr hsp hpr hHs hHr hhb hce hbe g1 g2 g3 hy hyi hlm
                go_enter Try.func35, Try.ntmps35
                go_wp2_with fail
                with_reducible refine (HHV.out w c0).mono ?_
                rintro e9 w1 ⟨rfl, m1, rfl⟩
                have hlk := HLX.out m1
                simp only [Option.map_some] at hlk
                go_wp2_with fail
                with_reducible refine (HIH.out e0.S pb e0.F (x % UU n) (w.drewN m1) (HRE.out.drewN m1) HX.out.2.2.1 HX.out.2.2.2.1).mono ?_
                rintro e9 w2 ⟨rfl, m2, rfl⟩
                rw [HY.out]
                simp only [nxV]
                go_wp2_with fail
                with_reducible refine (HWH.out (x / UU n) y (w.drewN (m1 + m2)) (cellN c0) HX.out.1 HX.out.2.1 HYI.out.1 HYI.out.2).mono ?_
                rintro e9 w3 ⟨rfl, rfl⟩
                go_wp2
                go_ret2
                exact ⟨by rw [HD.out]; rfl, m1 + m2, by simp [World.drewN]⟩
              · have hno : ∀ e ∈ E, e.h = x / UU n → pvU e.S (x % UU n) = none := fun e he h => by
                  have : e = e0 := one_of a5 he he0 (by rw [h, f1])
                  subst this
                  rw [pvU_none]
                  intro v hv hlt
                  have han : an' = true := hbe.2.2.1.2 (fun h => by rw [h] at hv; cases hv)
                  exact hyes ⟨han, by have := (hbe.2.2.2 han).2.2 v hv; omega⟩
                have HNN := hide (HN2.out hno)
                cases an' with
                | false =>
                  clear hc hbs b1 b2 b3 b4 q1 q2 q3 e1 e2 a1 a2 a3 a4 a5 a6 a7 a8 hr hsp hno hpr hHs hHr hhb hyes hbe hce
                  go_enter Try.func35, Try.ntmps35
                  go_wp2_with fail
                  with_reducible refine (HHV.out w c0).mono ?_
                  rintro e9 w1 ⟨rfl, m1, rfl⟩
                  have hlk := HLX.out m1
                  simp only [Option.map_some] at hlk
                  go_wp2_with fail
                  with_reducible refine (HIH.out Hs hb' Fh (x / UU n) (w.drewN m1) (HHS.out.drewN m1) HX.out.1 HX.out.2.1).mono ?_
                  rintro e9 w2 ⟨rfl, m2, rfl⟩
                  have hdd : (w.drewN m1).drewN m2 = w.drewN (m1 + m2) := by simp [World.drewN, Nat.add_assoc]
                  rw [hdd]
                  rcases HNN.out with ⟨e, he, k1, k2, le', k3, k4, k5⟩ | ⟨k1, k5⟩
                  · have HD := hide k5
                    have HEH := hide (HEN.out e he).2
                    have HK4 := hide k4
                    have hlk2 := HLK.out (m1 + m2) e.h
                    rw [k2] at hlk2
                    simp only [Option.map_some] at hlk2
                    rw [k1]
                    simp only [nxV]
                    have k3' : (w.drewN (m1 + m2)).cell? ⟨e.b, 3, none⟩ = some (.int .i64 le') := cellN k3
                    clear k1 k2 k3 k4 k5
                    go_wp2_with fail
                    with_reducible refine (HWH.out e.h le' (w.drewN (m1 + m2)) (cellN c0) HEH.out.1 HEH.out.2 HK4.out.1 HK4.out.2).mono ?_
                    rintro e9 w3 ⟨rfl, rfl⟩
                    go_wp2
                    go_ret2
                    exact ⟨by rw [HD.out]; rfl, m1 + m2, rfl⟩
                  · have HD := hide k5
                    rw [k1]
                    simp only [nxV]
                    clear k1 k5
                    go_wp2
                    go_ret2
                    exact ⟨by rw [HD.out]; rfl, m1 + m2, rfl⟩
                | true =>
                  have d5 : decide (le0 < x % UU n) = false := decide_eq_false (fun h => hyes ⟨rfl, h⟩)
                  clear hc hbs b1 b2 b3 b4 q1 q2 q3 e1 e2 a1 a2 a3 a4 a5 a6 a7 a8 hr hsp hno hpr hHs hHr hhb hyes hbe hce
                  go_enter Try.func35, Try.ntmps35
                  go_wp2_with fail
                  with_reducible refine (HHV.out w c0).mono ?_
                  rintro e9 w1 ⟨rfl, m1, rfl⟩
                  have hlk := HLX.out m1
                  simp only [Option.map_some] at hlk
                  go_wp2_with fail
                  with_reducible refine (HIH.out Hs hb' Fh (x / UU n) (w.drewN m1) (HHS.out.drewN m1) HX.out.1 HX.out.2.1).mono ?_
                  rintro e9 w2 ⟨rfl, m2, rfl⟩
                  have hdd : (w.drewN m1).drewN m2 = w.drewN (m1 + m2) := by simp [World.drewN, Nat.add_assoc]
                  rw [hdd]
                  rcases HNN.out with ⟨e, he, k1, k2, le', k3, k4, k5⟩ | ⟨k1, k5⟩
                  · have HD := hide k5
                    have HEH := hide (HEN.out e he).2
                    have HK4 := hide k4
                    have hlk2 := HLK.out (m1 + m2) e.h
                    rw [k2] at hlk2
                    simp only [Option.map_some] at hlk2
                    rw [k1]
                    simp only [nxV]
                    have k3' : (w.drewN (m1 + m2)).cell? ⟨e.b, 3, none⟩ = some (.int .i64 le') := cellN k3
                    clear k1 k2 k3 k4 k5
                    go_wp2_with fail
                    with_reducible refine (HWH.out e.h le' (w.drewN (m1 + m2)) (cellN c0) HEH.out.1 HEH.out.2 HK4.out.1 HK4.out.2).mono ?_
                    rintro e9 w3 ⟨rfl, rfl⟩
                    go_wp2
                    go_ret2
                    exact ⟨by rw [HD.out]; rfl, m1 + m2, rfl⟩
                  · have HD := hide k5
                    rw [k1]
                    simp only [nxV]
                    clear k1 k5
                    go_wp2
                    go_ret2
                    exact ⟨by rw [HD.out]; rfl, m1 + m2, rfl⟩
end Go.Proofs.Ytmhabjjabdambaa
namespace Go.Proofs.Ytmhabjjabdambaa
open Go.ChangeShapes Go.WideShapes Go.ChangeAt Go.RowKit
set_option linter.unusedVariables false
set_option linter.unusedSimpArgs false

section
variable {w w' : World}
theorem ans_bc {g : Nat} {t : TypeId} {x0 x1 x2 x3 u0 u1 u2 u3 : Value} (hb : BC w g t [x0, x1, x2, x3]) :
    BC ((((w.setCell ⟨g, 0, none⟩ u0).setCell ⟨g, 1, none⟩ u1).setCell ⟨g, 2, none⟩ u2).setCell ⟨g, 3, none⟩ u3) g t [u0, u1, u2, u3] := by
  have := (((hb.set (j := 0) (u := u0)).set (j := 1) (u := u1)).set (j := 2) (u := u2)).set (j := 3) (u := u3)
  simpa using this
theorem Kf.ans4 {F : Nat → Prop} {a : World} (h : Kf F a w) {g : Nat} (hg : a.heap.size ≤ g) {u0 u1 u2 u3 : Value} :
    Kf F a ((((w.setCell ⟨g, 0, none⟩ u0).setCell ⟨g, 1, none⟩ u1).setCell ⟨g, 2, none⟩ u2).setCell ⟨g, 3, none⟩ u3) :=
  (((h.set (p := ⟨g, 0, none⟩) (.inr hg)).set (p := ⟨g, 1, none⟩) (.inr hg)).set (p := ⟨g, 2, none⟩) (.inr hg)).set (p := ⟨g, 3, none⟩) (.inr hg)
end
theorem info_ans4 : (Try.prog.info? 39).map (·.size) = some 4 := by kernel_rfl
end Go.Proofs.Ytmhabjjabdambaa
namespace Go.Proofs.Ytmhabjjabdambaa
open Go.ChangeShapes Go.WideShapes Go.ChangeAt Go.RowKit
set_option linter.unusedVariables false
set_option linter.unusedSimpArgs false

def ansN : Option Int → An
  | some k => ⟨0, k, 0, true⟩
  | none => ⟨0, 0, 0, false⟩
def hDo (S : List Int) (o : O3) : List Int × An :=
  if ¬ (1 ≤ o.1 ∧ o.1 ≤ 5) then (S, ⟨3, 0, 0, false⟩)
  else if ¬ (0 ≤ o.2.1 ∧ o.2.1 ≤ 65535) then (S, ⟨1, 0, 0, false⟩)
  else if o.1 = 4 then (S, ansN (nxU S o.2.1))
  else if o.1 = 5 then (S, ansN (pvU S o.2.1))
  else (if o.1 = 1 then insU S o.2.1 else if o.1 = 3 then delU S o.2.1 else S, ⟨0, 0, 0, decide (o.2.1 ∈ S)⟩)
theorem delU_out {S : List Int} {x : Int} (h : x ∉ S) : delU S x = S := by
  unfold delU
  rw [List.filter_eq_self]
  intro a ha
  simp only [Bool.not_eq_true', beq_eq_false_iff_ne]
  intro e; subst e; exact h ha
def HoPost (r : List Int × An) (b : Nat) (F : List Nat) (w : World) (e : Ending) (w' : World) : Prop := e = .returned r.2.v ∧ ∃ F', HR 57 4 w' r.1 b F' ∧ (∀ i ∈ F', i ∈ F ∨ w.heap.size ≤ i) ∧ Kf (fun i => i ∈ F) w w'
theorem HR.ans4 {ty : TypeId} {n : Nat} {w : World} {S : List Int} {b : Nat} {F : List Nat} (h : HR ty n w S b F) {g : Nat} (hg : g ∉ F) {u0 u1 u2 u3 : Value} :
    HR ty n ((((w.setCell ⟨g, 0, none⟩ u0).setCell ⟨g, 1, none⟩ u1).setCell ⟨g, 2, none⟩ u2).setCell ⟨g, 3, none⟩ u3) S b F := by
  refine HR.kf (G := fun i => i = g) ?_ h (fun i hi (e : i = g) => hg (e ▸ hi))
  exact Kf.set (Kf.set (Kf.set (Kf.set (Kf.refl _ _) (.inl rfl)) (.inl rfl)) (.inl rfl)) (.inl rfl)
set_option maxRecDepth 100000 in
theorem htold_any (k : Int) (is : Bool) (w : World) : Calls Try.prog 33 #[.int .i64 k, .bool is] w (Ret (⟨0, k, 0, is⟩ : An).v w) := by
  have HA := hide (BC.new w 39 [.int .i64 0, .int .i64 k, .int .i64 0, .bool is])
  go_enter Try.func33, Try.ntmps33
  go_wp2
  refine bodyPost_ret (v := (⟨0, k, 0, is⟩ : An).v) ?_ ?_ ?_
  · exact results_cell_row rfl _ _ w.heap.size 39 _ (0, 0) _ rfl HA.out Try.underlying39 rfl info_ans4
  · rfl
  · exact ⟨rfl, Kp.bel (by (focus ((repeat (first | (with_reducible assumption) | (with_reducible exact Kp.refl _) | (with_reducible apply Kp.drew) | (with_reducible apply Kp.drewN) | ((with_reducible apply Kp.setR); (focus (first | (with_reducible assumption) | (simp; done) | (simp; omega)))) | (with_reducible apply Kp.alloc) | ((with_reducible apply Kp.call); (with_reducible assumption)) | ((with_reducible apply Kp.app); (with_reducible assumption)))); done)))⟩
end Go.Proofs.Ytmhabjjabdambaa
