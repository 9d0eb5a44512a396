/-
  goat.keys, goat.told, goat.deepest, goat.Deepest, goat.Even: what they answer. Conditions: the tree as MR says; the list reads as l (RD).
  The yard in memory; a way down to a link, kept, taken back up; the links that were met. No program. Conditions: none.
  goat.yard.anew: what it leaves. Conditions: the way to the link as At_ says, the yard as YR says.
-/
import Derived.Test.YtpkkajglbklboaaDoorG14
import Derived.Test.YtpkkajglbklboaaDoorG13

namespace Go.Proofs.YtpkkajglbklboaaDoor
open Go.ChangeShapes Go.WideShapes Go.ChangeAt Go.RowKit
set_option linter.unusedVariables false
set_option linter.unusedSimpArgs false

set_option maxRecDepth 100000 in
set_option maxHeartbeats 4000000 in
theorem gtKeys_any (t : MT IP) : ∀ (p : Option Addr) (F : List Nat) (w : World), MR w 95 eFst t p F → t.size ≤ 1000000 → Calls Tryd.prog 65 #[.pointer p] w (RetOW 3 eInt (kM t) w) := by
  induction t with
  | nil =>
    intro p F w hm hs
    obtain ⟨rfl, rfl⟩ := hm
    go_enter Tryd.func65, Tryd.ntmps65
    go_wp2
    go_ret
    exact ⟨_, rfl, OW.nil, Below.refl _ _⟩
  | node a l r ihl ihr =>
    intro p F w hm hs
    obtain ⟨b, pl, pr, Fl, Fr, rfl, rfl, hbc, _, _, _, hml, hmr⟩ := hm
    simp only [MT.size] at hs
    have HC1 := hide (fun W (h : Kp w W) => ihl pl Fl W (hml.kp h) (by omega))
    have HC2 := hide (fun W (h : Kp w W) => ihr pr Fr W (hmr.kp h) (by omega))
    obtain ⟨k0, hk0⟩ : ∃ k0, k0 = a.1 := ⟨_, rfl⟩
    have c0 : w.cell? ⟨b, 0, none⟩ = some (.int .i64 k0) := by rw [hk0]; exact hbc.cell 0
    have cL : w.cell? ⟨b, 1, none⟩ = some (.pointer pl) := hbc.cell 1
    have cR : w.cell? ⟨b, 2, none⟩ = some (.pointer pr) := hbc.cell 2
    have HK : Hid (kM (.node a l r) = [kM l, [k0], kM r].flatten) := hide (by rw [kM_node, hk0]; simp)
    have HCC := hide (fun W v (h : RDS W eInt v [kM l, [k0], kM r]) => concatI [kM l, [k0], kM r] v W h (by simp [kM_len]; omega))
    have KS : Hid (∀ W', Kp w W' → (W'.cell? ⟨b, 0, none⟩ = some (.int .i64 k0) ∧ W'.cell? ⟨b, 1, none⟩ = some (.pointer pl) ∧ W'.cell? ⟨b, 2, none⟩ = some (.pointer pr) ∧ Kp w W')) :=
      hide fun W' h => ⟨h.cell c0, h.cell cL, h.cell cR, h⟩
    have K0 := Kp.refl w
    clear hml hmr hbc hs ihl ihr hk0
    go_enter Tryd.func65, Tryd.ntmps65
    go_wp2_with fail
    go_region_held3 (fun w' => w'.cell? ⟨b, 0, none⟩ = some (.int .i64 k0) ∧ w'.cell? ⟨b, 1, none⟩ = some (.pointer pl) ∧ w'.cell? ⟨b, 2, none⟩ = some (.pointer pr) ∧ Kp w w')
      ((go_split_ands; refine KS.out _ ?_; (focus ((repeat (first | (with_reducible assumption) | (with_reducible exact Kp.refl _) | (with_reducible apply Kp.drew) | (with_reducible apply Kp.drewN) | ((with_reducible apply Kp.setR); (focus (first | (with_reducible assumption) | (simp; done) | (simp; omega)))) | (with_reducible apply Kp.alloc) | ((with_reducible apply Kp.call); (with_reducible assumption)) | ((with_reducible apply Kp.app); (with_reducible assumption)))); done))))
      (first
        | (go_at_call_of 65 (Value.pointer pl); (with_reducible refine (HC1.out _ ?_).mono ?_); (go_split_ands; (focus ((repeat (first | (with_reducible assumption) | (with_reducible exact Kp.refl _) | (with_reducible apply Kp.drew) | (with_reducible apply Kp.drewN) | ((with_reducible apply Kp.setR); (focus (first | (with_reducible assumption) | (simp; done) | (simp; omega)))) | (with_reducible apply Kp.alloc) | ((with_reducible apply Kp.call); (with_reducible assumption)) | ((with_reducible apply Kp.app); (with_reducible assumption)))); done))); rintro e w1 ⟨v1, rfl, ho1, hb1⟩; obtain ⟨X1, N1, Y1, rfl⟩ := ho1.rd.slice; have hr1 := ho1.rd)
        | (go_at_call_of 65 (Value.pointer pr); (with_reducible refine (HC2.out _ ?_).mono ?_); (go_split_ands; (focus ((repeat (first | (with_reducible assumption) | (with_reducible exact Kp.refl _) | (with_reducible apply Kp.drew) | (with_reducible apply Kp.drewN) | ((with_reducible apply Kp.setR); (focus (first | (with_reducible assumption) | (simp; done) | (simp; omega)))) | (with_reducible apply Kp.alloc) | ((with_reducible apply Kp.call); (with_reducible assumption)) | ((with_reducible apply Kp.app); (with_reducible assumption)))); done))); rintro e w2 ⟨v2, rfl, ho2, hb2⟩; obtain ⟨X2, N2, Y2, rfl⟩ := ho2.rd.slice; have hr2 := ho2.rd)
        | (go_at_call 74; (with_reducible refine (HCC.out _ _ ?_).mono ?_); (focus (refine RDS.new3 ?_ ?_ ?_ ?_; (focus (first | rfl | (simp; done))); (focus ((repeat (first | (with_reducible assumption) | exact RD.new1 _ rfl | (refine RD.new1e _ ?_ rfl; simp; done) | (with_reducible apply RD.alloc) | (with_reducible apply RD.drew) | (with_reducible apply RD.drewN) | ((with_reducible apply RD.belowR); (with_reducible assumption)))); done)); (focus ((repeat (first | (with_reducible assumption) | exact RD.new1 _ rfl | (refine RD.new1e _ ?_ rfl; simp; done) | (with_reducible apply RD.alloc) | (with_reducible apply RD.drew) | (with_reducible apply RD.drewN) | ((with_reducible apply RD.belowR); (with_reducible assumption)))); done)); (focus ((repeat (first | (with_reducible assumption) | exact RD.new1 _ rfl | (refine RD.new1e _ ?_ rfl; simp; done) | (with_reducible apply RD.alloc) | (with_reducible apply RD.drew) | (with_reducible apply RD.drewN) | ((with_reducible apply RD.belowR); (with_reducible assumption)))); done)))); rintro e w3 ⟨v3, rfl, ho3, hb3⟩))
    all_goals
      go_wp2
      go_ret
      have k3 : Kp w w3 := by (go_split_ands; (focus ((repeat (first | (with_reducible assumption) | (with_reducible exact Kp.refl _) | (with_reducible apply Kp.drew) | (with_reducible apply Kp.drewN) | ((with_reducible apply Kp.setR); (focus (first | (with_reducible assumption) | (simp; done) | (simp; omega)))) | (with_reducible apply Kp.alloc) | ((with_reducible apply Kp.call); (with_reducible assumption)) | ((with_reducible apply Kp.app); (with_reducible assumption)))); done)))
      refine ⟨v3, rfl, ?_, k3.bel⟩
      rw [HK.out]
      refine ho3.more ?_
      refine Kp.size (w := w) ?_
      (go_split_ands; (focus ((repeat (first | (with_reducible assumption) | (with_reducible exact Kp.refl _) | (with_reducible apply Kp.drew) | (with_reducible apply Kp.drewN) | ((with_reducible apply Kp.setR); (focus (first | (with_reducible assumption) | (simp; done) | (simp; omega)))) | (with_reducible apply Kp.alloc) | ((with_reducible apply Kp.call); (with_reducible assumption)) | ((with_reducible apply Kp.app); (with_reducible assumption)))); done)))
set_option maxRecDepth 100000 in
set_option maxHeartbeats 2000000 in
theorem gtTold_any (t : MT IP) (p : Option Addr) (F : List Nat) (w : World) (hm : MR w 95 eFst t p F) (hs : t.size ≤ 1000) : Calls Tryd.prog 30 #[.pointer p] w (RetRD ePair (t.spotsBy Prod.fst 0) w) := by
  have HO := hide (OB.new (B := w.heap.size) (st := 23) (e := 70) (E := ePair) w (Nat.le_refl _))
  have HC := hide (goat_spots_any w.heap.size w.heap.size (Nat.le_refl _) t p F 0 [] _ (hm.kp (Kp.refl w).alloc) (by omega) (by omega) (by simp; omega) HO.out (by simp))
  clear hm
  go_enter Tryd.func30, Tryd.ntmps30
  go_wp2_with fail
  with_reducible refine HC.out.mono ?_
  rintro e w1 ⟨rfl, ho1, hk1⟩
  have k1 := hk1.none (Kp.refl w).alloc (Nat.le_refl _) (by simp [go_sem])
  rw [List.nil_append] at ho1
  obtain ⟨u, hb, hu, hn⟩ := ho1
  have g0 := hb.cell 0
  obtain ⟨A3, N3, c3, rfl⟩ := hu.rd.slice
  have HU := hide hu.rd
  have K1 := hide k1
  clear hk1 hb hu hn k1
  go_wp2
  go_ret
  exact ⟨_, rfl, HU.out, K1.out.bel⟩
def DpRel (n : Nat) (w : World) (dv tv uv : Value) (wr : World) : Prop :=
  ∃ d A B : Nat, d ≤ 18 ∧ A = 3 ^ (d + 1) ∧ B = 2 ^ (d + 1) ∧ dv = .int .i64 (d : Int) ∧ tv = .int .i64 (A : Int) ∧ uv = .int .i64 (B : Int) ∧ deepL n (18 - d) d = deepF n ∧ w = wr
theorem pow_bounds (d : Nat) (h : d ≤ 18) : 3 ^ (d + 1) ≤ 3 ^ 19 ∧ 2 ^ (d + 1) ≤ 2 ^ 19 := ⟨Nat.pow_le_pow_right (by omega) (by omega), Nat.pow_le_pow_right (by omega) (by omega)⟩
theorem pow_nums : (3 : Nat) ^ 19 = 1162261467 ∧ (2 : Nat) ^ 19 = 524288 := by decide +kernel
set_option maxRecDepth 100000 in
set_option maxHeartbeats 4000000 in
theorem gtDeepest_any (n : Nat) (hn : n ≤ 1000) (w : World) : Calls Tryd.prog 34 #[.int .i64 (n : Int)] w (fun e w' => e = .returned (.int .i64 (deepF n : Int)) ∧ w = w') := by
  have HLT := hide (deepF_lt n hn)
  go_enter Tryd.func34, Tryd.ntmps34
  go_wp2
  go_loopw [3, 4, 5] (DpRel n w) (fun d _ _ _ => 19 - (intOf d).toNat)
  case atStart => exact ⟨0, 3, 2, by omega, rfl, rfl, rfl, rfl, rfl, rfl, rfl⟩
  case round =>
    obtain ⟨d, A, B, hd, hA, hB, rfl, rfl, rfl, hl, rfl⟩ := hrel
    have hd17 : d ≤ 17 := by
      rcases Nat.lt_or_ge d 18 with h | h
      · omega
      · have : d = 18 := by omega
        subst this
        have e : deepL n (18 - 18) 18 = 18 := rfl
        have := HLT.out
        omega
    have hb := pow_bounds d hd
    rw [← hA, ← hB, pow_nums.1, pow_nums.2] at hb
    obtain ⟨hb1, hb2⟩ := hb
    obtain ⟨NB, hNB⟩ : ∃ NB, NB = n * B := ⟨_, rfl⟩
    have hnb : NB ≤ 1000 * 524288 := by rw [hNB]; exact Nat.mul_le_mul hn hb2
    have hmul : (n : Int) * (B : Int) = (NB : Int) := by rw [hNB]; exact (Int.natCast_mul n B).symm
    have hw1 : IntKind.i64.wrap ((n : Int) * (B : Int)) = (NB : Int) := by rw [hmul]; exact IntWalk.i64_in _ (by omega)
    have hw2 : IntKind.i64.wrap (3 * (A : Int)) = ((3 * A : Nat) : Int) := by rw [IntWalk.i64_in _ (by omega)]; omega
    have hw3 : IntKind.i64.wrap (2 * (B : Int)) = ((2 * B : Nat) : Int) := by rw [IntWalk.i64_in _ (by omega)]; omega
    have hw4 : IntKind.i64.wrap ((d : Int) + 1) = ((d + 1 : Nat) : Int) := by rw [IntWalk.i64_in _ (by omega)]; omega
    have hst : deepL n (18 - d) d = if 0 < n ∧ A ≤ NB then deepL n (18 - (d + 1)) (d + 1) else d := by
      rw [show 18 - d = (18 - (d + 1)) + 1 by omega, deepL, hA, hNB, hB]
    have HL := hide hl
    have HST := hide hst
    have HA := hide hA
    have HB := hide hB
    have HNB := hide hNB
    clear hl hst hA hB hNB hmul
    by_cases hc : A ≤ NB
    · have hn0 : 0 < n := by
        rcases Nat.eq_zero_or_pos n with h | h
        · have h1 := HNB.out
          rw [h, Nat.zero_mul] at h1
          have h2 : 0 < A := by rw [HA.out]; exact Nat.pow_pos (by omega)
          omega
        · exact h
      have HN : Hid (deepL n (18 - (d + 1)) (d + 1) = deepF n) := hide (by rw [← HL.out, HST.out, if_pos ⟨hn0, hc⟩])
      have d1 : decide (A ≤ NB) = true := decide_eq_true hc
      have d2 : decide (0 < n) = true := decide_eq_true hn0
      have hc' : (A : Int) ≤ (NB : Int) := by omega
      have hn0' : (0 : Int) < (n : Int) := by omega
      go_wp2
      go_roundw
      case rel => exact ⟨d + 1, 3 * A, 2 * B, by omega, by rw [HA.out, Nat.pow_succ 3 (d + 1), Nat.mul_comm], by rw [HB.out, Nat.pow_succ 2 (d + 1), Nat.mul_comm], rfl, rfl, rfl, HN.out, rfl⟩
      case measure => simp [intOf]; omega
    · have HN : Hid (d = deepF n) := hide (by rw [← HL.out, HST.out, if_neg (fun h => hc h.2)])
      have d1 : decide (A ≤ NB) = false := decide_eq_false hc
      have hc' : ¬ (A : Int) ≤ (NB : Int) := by omega
      go_wp2
      go_ret
      exact ⟨by rw [← HN.out]; rfl, rfl⟩
def deepA (n : Int) : Int × Int := if n < 0 ∨ 200 < n then (0, 1) else (((deepF n.toNat : Nat) : Int), 0)
set_option maxRecDepth 100000 in
theorem gtDeep_any (n : Int) (w : World) : Calls Tryd.prog 10 #[.int .i64 n] w (fun e w' => e = .returned (.tuple #[.int .i64 (deepA n).1, .int .i64 (deepA n).2]) ∧ w = w') := by
  rcases Int.lt_trichotomy n 0 with h | h | h
  · have HD : Hid (deepA n = (0, 1)) := hide (by rw [deepA, if_pos (.inl h)])
    have d1 : decide (n < 0) = true := decide_eq_true h
    go_enter Tryd.func10, Tryd.ntmps10
    go_wp2
    go_ret2
    exact ⟨by rw [HD.out]; rfl, rfl⟩
  · subst h
    have HD : Hid (deepA 0 = (((deepF 0 : Nat) : Int), 0)) := hide (by rw [deepA, if_neg (by omega)]; rfl)
    have HC := hide (fun W => gtDeepest_any 0 (by omega) W)
    go_enter Tryd.func10, Tryd.ntmps10
    go_wp2_with fail
    refine (HC.out _).mono ?_
    rintro e w1 ⟨rfl, rfl⟩
    go_wp2
    go_ret2
    exact ⟨by rw [HD.out]; rfl, rfl⟩
  · by_cases h2 : 200 < n
    · have HD : Hid (deepA n = (0, 1)) := hide (by rw [deepA, if_pos (.inr h2)])
      have d1 : decide (n < 0) = false := decide_eq_false (by omega)
      have d2 : decide (200 < n) = true := decide_eq_true h2
      go_enter Tryd.func10, Tryd.ntmps10
      go_wp2
      go_ret2
      exact ⟨by rw [HD.out]; rfl, rfl⟩
    · have HD : Hid (deepA n = (((deepF n.toNat : Nat) : Int), 0)) := hide (by rw [deepA, if_neg (by omega)])
      obtain ⟨m, rfl⟩ : ∃ m : Nat, n = (m : Int) := ⟨n.toNat, by omega⟩
      have HC := hide (fun W => gtDeepest_any m (by omega) W)
      have d1 : decide ((m : Int) < 0) = false := decide_eq_false (by omega)
      have d2 : decide (200 < (m : Int)) = false := decide_eq_false h2
      have h2' : ¬ (200 : Int) < (m : Int) := h2
      go_enter Tryd.func10, Tryd.ntmps10
      go_wp2_with fail
      refine (HC.out _).mono ?_
      rintro e w1 ⟨rfl, rfl⟩
      go_wp2
      go_ret2
      exact ⟨by rw [HD.out]; rfl, rfl⟩
end Go.Proofs.YtpkkajglbklboaaDoor
namespace Go.Proofs.YtpkkajglbklboaaDoor
open Go.ChangeShapes Go.WideShapes Go.ChangeAt Go.RowKit
set_option linter.unusedVariables false
set_option linter.unusedSimpArgs false

section
variable {α : Type} {w w' : World} {nt : TypeId} {E : Enc α} {kf : α → Int} {r0 : Addr} {T : MT α} {F : List Nat} {key : Int} {C : List (Fm α)} {q : Addr} {t : MT α} {p : Option Addr} {Fc Ft : List Nat}
theorem At_.keep (h : At_ w nt E kf r0 T F key C q t p Fc Ft) (hr : w'.cell? r0 = w.cell? r0) (hf : w'.frozen? r0 = w.frozen? r0) (hk : ∀ i ∈ F, w'.heap[i]? = w.heap[i]?) : At_ w' nt E kf r0 T F key C q t p Fc Ft := by
  have hz := h.zp.keep hr (fun i hi => hk i (h.sub i (.inr hi)))
  refine ⟨hz, ?_, ?_, MR.keep (fun i hi => hk i (h.sub i (.inl hi))) h.mr, h.dis, h.eq, h.dir, h.sub⟩
  · rcases h.zp.at_ with e | hx
    · rw [e, hr, ← e]; exact h.cell
    · exact (World.cell?_of_block (hk _ (h.sub _ (.inr hx)))).trans h.cell
  · rcases h.zp.at_ with e | hx
    · rw [e, hf, ← e]; exact h.fz
    · rw [World.frozen?_of_block (hk _ (h.sub _ (.inr hx)))]; exact h.fz
theorem At_.kp (h : At_ w nt E kf r0 T F key C q t p Fc Ft) (hk : Kp w w') (hr : r0.block < w.heap.size) (hF : ∀ x ∈ F, x < w.heap.size) : At_ w' nt E kf r0 T F key C q t p Fc Ft :=
  h.keep (World.cell?_of_block (hk.bel.block _ hr)) (hk.frozen hr) fun i hi => hk.bel.block i (hF i hi)
/-- One frame up. -/
theorem At_.upf {f : Fm α} (h : At_ w nt E kf r0 T F key (f :: C) q t p Fc Ft) (hfr : w.frozen? r0 = false) :
    ∃ b q' Fc' Ft', q = ⟨b, lk E f.left, none⟩ ∧ (∃ ph po, BC w b nt (fmC E f ph po)) ∧ w.cell? q' = some (.pointer (some ⟨b, 0, none⟩)) ∧ At_ w nt E kf r0 T F key C q' (f.on t) (some ⟨b, 0, none⟩) Fc' Ft' := by
  obtain ⟨hz, hc, hf, hm, hd, he, hdir, hs⟩ := h
  obtain ⟨b, ph, po, Fo, q', F', rfl, hb, ho, hz', hc', rfl, h1, h2, h3⟩ := hz
  have e := hb.cell (lk E f.left)
  rw [hc, fmC_link] at e
  injection e with e
  injection e with e
  subst e
  have hbt : b ∉ Ft := fun h => hd b h (by simp)
  have hto : ∀ x ∈ Ft, x ∉ Fo := fun x hx hx' => hd x hx (by simp [hx'])
  have hfq : w.frozen? q' = false := by
    rcases hz'.at_ with rfl | hx
    · exact hfr
    · obtain ⟨cs, hbc⟩ := hz'.bc _ hx
      have := hbc.frozen q'.off
      simp only [World.frozen?] at this ⊢
      exact this
  have hdir' : Dir kf C key := fun x hx => hdir x (by simp [hx])
  cases hfl : f.left with
  | true =>
    have hb' : BC w b nt (nodeC E f.a p po) := by simpa [fmC, hfl] using hb
    refine ⟨b, q', F', b :: (Ft ++ Fo), by simp [lk], ⟨p, po, hb⟩, hc', hz', hc', hfq, by simpa [Fm.on, hfl] using MR.mk hb' hbt h1 hto hm ho, ?_, he, hdir', ?_⟩
    · intro x hx hx'
      rcases List.mem_cons.1 hx with rfl | hx
      · exact h2 hx'
      · rcases List.mem_append.1 hx with hx | hx
        · exact hd x hx (by simp [hx'])
        · exact h3 x hx hx'
    · intro x hx
      refine hs x ?_
      simp only [List.mem_cons, List.mem_append] at hx ⊢
      rcases hx with (hx | hx | hx) | hx
      · exact .inr (.inl hx)
      · exact .inl hx
      · exact .inr (.inr (.inl hx))
      · exact .inr (.inr (.inr hx))
  | false =>
    have hb' : BC w b nt (nodeC E f.a po p) := by simpa [fmC, hfl] using hb
    refine ⟨b, q', F', b :: (Fo ++ Ft), by simp [lk], ⟨p, po, hb⟩, hc', hz', hc', hfq, by simpa [Fm.on, hfl] using MR.mk hb' h1 hbt (fun x hx hx' => hto x hx' hx) ho hm, ?_, he, hdir', ?_⟩
    · intro x hx hx'
      rcases List.mem_cons.1 hx with rfl | hx
      · exact h2 hx'
      · rcases List.mem_append.1 hx with hx | hx
        · exact h3 x hx hx'
        · exact hd x hx (by simp [hx'])
    · intro x hx
      refine hs x ?_
      simp only [List.mem_cons, List.mem_append] at hx ⊢
      rcases hx with (hx | hx | hx) | hx
      · exact .inr (.inl hx)
      · exact .inr (.inr (.inl hx))
      · exact .inl hx
      · exact .inr (.inr (.inr hx))
end
/-- The links that were met, from the first one on, and the one at the end. -/
def ChL (w : World) (key : Int) (r0 : Addr) (L : List Addr) (e : Addr) : Prop :=
  (L ++ [e])[0]? = some r0 ∧ ∀ i, i < L.length → ∃ a b K, L[i]? = some a ∧ w.cell? a = some (.pointer (some ⟨b, 0, none⟩)) ∧ w.cell? ⟨b, 0, none⟩ = some (.int .i64 K) ∧ (L ++ [e])[i + 1]? = some (if key < K then ⟨b, 1, none⟩ else ⟨b, 2, none⟩)
theorem ChL.start (w : World) (key : Int) (r0 : Addr) : ChL w key r0 [] r0 := ⟨rfl, fun i h => by simp at h⟩
theorem ChL.snoc {w : World} {key : Int} {r0 e : Addr} {L : List Addr} (h : ChL w key r0 L e) {b : Nat} {K : Int} (h1 : w.cell? e = some (.pointer (some ⟨b, 0, none⟩))) (h2 : w.cell? ⟨b, 0, none⟩ = some (.int .i64 K)) : ChL w key r0 (L ++ [e]) (if key < K then ⟨b, 1, none⟩ else ⟨b, 2, none⟩) := by
  obtain ⟨g1, g2⟩ := h
  refine ⟨?_, fun i hi => ?_⟩
  · rw [List.getElem?_append_left (by simp)]; exact g1
  · rw [List.length_append, List.length_singleton] at hi
    by_cases hl : i < L.length
    · obtain ⟨a, b', K', e1, e2, e3, e4⟩ := g2 i hl
      refine ⟨a, b', K', ?_, e2, e3, ?_⟩
      · rw [List.getElem?_append_left hl]; exact e1
      · rw [List.getElem?_append_left (by simp; omega)]; exact e4
    · obtain rfl : i = L.length := by omega
      refine ⟨e, b, K, ?_, h1, h2, ?_⟩
      · rw [List.getElem?_append_right (Nat.le_refl _)]; simp
      · rw [List.getElem?_append_right (by simp)]; simp
theorem ChL.keep {w w' : World} {key : Int} {r0 e : Addr} {L : List Addr} (h : ChL w key r0 L e) (h1 : ∀ a b, w.cell? a = some (.pointer (some b)) → w'.cell? a = w.cell? a) (h2 : ∀ (b : Nat) K, w.cell? ⟨b, 0, none⟩ = some (.int .i64 K) → w'.cell? ⟨b, 0, none⟩ = w.cell? ⟨b, 0, none⟩) : ChL w' key r0 L e := by
  obtain ⟨g1, g2⟩ := h
  refine ⟨g1, fun i hi => ?_⟩
  obtain ⟨a, b, K, e1, e2, e3, e4⟩ := g2 i hi
  exact ⟨a, b, K, e1, (h1 a _ e2).trans e2, (h2 b K e3).trans e3, e4⟩
theorem ChL.kp {w w' : World} {key : Int} {r0 e : Addr} {L : List Addr} (h : ChL w key r0 L e) (hk : Kp w w') : ChL w' key r0 L e :=
  h.keep (fun a b hc => (hk.cell hc).trans hc.symm) (fun b K hc => (hk.cell hc).trans hc.symm)
/-- A store where neither a pointer nor, at an object's head, a number stood. -/
theorem ChL.set {w : World} {key : Int} {r0 e : Addr} {L : List Addr} (h : ChL w key r0 L e) {q : Addr} {u : Value} (h1 : ∀ b, w.cell? q ≠ some (.pointer (some b))) (h2 : q.off = 0 → ∀ K, w.cell? q ≠ some (.int .i64 K)) : ChL (w.setCell q u) key r0 L e :=
  h.keep (fun a b hc => World.cell?_setCell_other _ _ _ _ (fun e => h1 b (e ▸ hc))) (fun b K hc => World.cell?_setCell_other _ _ _ _ (fun e => h2 (by rw [e]) K (e ▸ hc)))
/-- A link on the way stands in the chain. -/
theorem At_.chain {w : World} {nt : TypeId} {r0 : Addr} {T : MT IP} {F : List Nat} {key : Int} {L : List Addr} {e : Addr} (hc : ChL w key r0 L e) (hfr : w.frozen? r0 = false) : ∀ (C : List (Fm IP)) (q : Addr) (t : MT IP) (p : Option Addr) (Fc Ft : List Nat), At_ w nt eFst Prod.fst r0 T F key C q t p Fc Ft → C.length ≤ L.length → (L ++ [e])[C.length]? = some q
  | [], q, t, p, Fc, Ft, h, _ => by
    obtain ⟨rfl, _⟩ := h.zp
    exact hc.1
  | f :: C, q, t, p, Fc, Ft, h, hl => by
    obtain ⟨b, q', Fc', Ft', rfl, ⟨ph, po, hb⟩, hq', h'⟩ := h.upf hfr
    have ih := At_.chain hc hfr C q' _ _ _ _ h' (by simp at hl; omega)
    have hdir := h.dir f (by simp)
    obtain ⟨a, b', K, e1, e2, e3, e4⟩ := hc.2 C.length (by simp at hl; omega)
    rw [List.getElem?_append_left (by simp at hl; omega), e1] at ih
    injection ih with ih
    subst ih
    rw [hq'] at e2
    injection e2 with e2
    injection e2 with e2
    injection e2 with e2
    injection e2 with e2
    subst e2
    have hk : w.cell? ⟨b, 0, none⟩ = some (.int .i64 f.a.1) := by
      rw [hb.cell 0]
      unfold fmC nodeC
      split <;> rfl
    rw [hk] at e3
    injection e3 with e3
    injection e3 with _ e3
    subst e3
    rw [List.length_cons, e4]
    cases hfl : f.left with
    | true => rw [if_pos (hdir.1 hfl)]; rfl
    | false => rw [if_neg (by have := hdir.2 hfl; omega)]; rfl

/-! Plain words on a way down. -/
theorem mem_on (f : Fm IP) (t : MT IP) (k : Int) (h : k ∈ kM t) : k ∈ kM (f.on t) := by
  obtain ⟨a, left, o⟩ := f
  cases left with
  | true => simp only [Fm.on, if_true, kM_node, List.mem_append, List.mem_singleton]; exact .inl (.inl h)
  | false => simp only [Fm.on, Bool.false_eq_true, if_false, kM_node, List.mem_append, List.mem_singleton]; exact .inr h
theorem mem_plug : ∀ (C : List (Fm IP)) (t : MT IP) (k : Int), k ∈ kM t → k ∈ kM (plug C t)
  | [], t, k, h => h
  | f :: C, t, k, h => mem_plug C (f.on t) k (mem_on f t k h)
theorem up_on {f : Fm IP} {t : MT IP} (h : Up (kM (f.on t))) : Up (kM t) := by
  obtain ⟨a, left, o⟩ := f
  cases left with
  | true => simp only [Fm.on, if_true] at h; exact (up_node h).1
  | false => simp only [Fm.on, Bool.false_eq_true, if_false] at h; exact (up_node h).2.1
theorem notin_on {f : Fm IP} {t : MT IP} {k : Int} (hu : Up (kM (f.on t))) (hd : (f.left = true → k < f.a.1) ∧ (f.left = false → f.a.1 < k)) (h : k ∉ kM t) : k ∉ kM (f.on t) := by
  obtain ⟨a, left, o⟩ := f
  cases left with
  | true =>
    simp only [Fm.on, if_true] at hu ⊢
    obtain ⟨_, _, h3, h4⟩ := up_node hu
    have := hd.1 rfl
    simp only at this
    simp only [kM_node, List.mem_append, List.mem_singleton, not_or]
    exact ⟨⟨h, by omega⟩, fun hx => by have := h4 k hx; omega⟩
  | false =>
    simp only [Fm.on, Bool.false_eq_true, if_false] at hu ⊢
    obtain ⟨_, _, h3, h4⟩ := up_node hu
    have := hd.2 rfl
    simp only at this
    simp only [kM_node, List.mem_append, List.mem_singleton, not_or]
    exact ⟨⟨fun hx => by have := h3 k hx; omega, by omega⟩, h⟩
theorem up_plug : ∀ (C : List (Fm IP)) (t : MT IP), Up (kM (plug C t)) → Up (kM t)
  | [], t, h => h
  | f :: C, t, h => up_on (up_plug C (f.on t) h)
theorem notin_plug : ∀ (C : List (Fm IP)) (t : MT IP) (k : Int), Up (kM (plug C t)) → Dir Prod.fst C k → k ∉ kM t → k ∉ kM (plug C t)
  | [], t, k, _, _, h => h
  | f :: C, t, k, hu, hd, h => notin_plug C (f.on t) k hu (fun x hx => hd x (by simp [hx])) (notin_on (up_plug C (f.on t) hu) (hd f (by simp)) h)
theorem lenT_on {f : Fm IP} {k : Int} (hd : (f.left = true → k < f.a.1) ∧ (f.left = false → f.a.1 < k)) (t : MT IP) : lenT (f.on t) k = lenT t k + 1 := by
  obtain ⟨a, left, o⟩ := f
  cases left with
  | true =>
    have := hd.1 rfl
    simp only at this
    simp only [Fm.on, if_true, lenT]
    rw [if_neg (by omega), if_pos this]
  | false =>
    have := hd.2 rfl
    simp only at this
    simp only [Fm.on, Bool.false_eq_true, if_false, lenT]
    rw [if_neg (by omega), if_neg (by omega)]
theorem lenT_plug : ∀ (C : List (Fm IP)) (t : MT IP) (k : Int), Dir Prod.fst C k → lenT (plug C t) k = C.length + lenT t k
  | [], t, k, _ => by simp [plug]
  | f :: C, t, k, hd => by
    rw [plug, lenT_plug C (f.on t) k (fun x hx => hd x (by simp [hx])), lenT_on (hd f (by simp))]
    simp only [List.length_cons]; omega
theorem fixT_on {f : Fm IP} {k : Int} (hd : (f.left = true → k < f.a.1) ∧ (f.left = false → f.a.1 < k)) (t : MT IP) (h : (fixT t k).2.2 = true) : fixT (f.on t) k = (f.on (fixT t k).1, (fixT t k).2.1, true) := by
  obtain ⟨a, left, o⟩ := f
  cases left with
  | true =>
    have := hd.1 rfl
    simp only at this
    simp only [Fm.on, if_true]
    rw [fixT, if_neg (by omega), if_pos this, if_pos h]
  | false =>
    have := hd.2 rfl
    simp only at this
    simp only [Fm.on, Bool.false_eq_true, if_false]
    rw [fixT, if_neg (by omega), if_neg (by omega), if_pos h]
theorem fixT_plug : ∀ (C : List (Fm IP)) (t : MT IP) (k : Int), Dir Prod.fst C k → (fixT t k).2.2 = true → fixT (plug C t) k = (plug C (fixT t k).1, (fixT t k).2.1, true)
  | [], t, k, _, h => by rw [plug]; exact Prod.ext rfl (Prod.ext rfl h)
  | f :: C, t, k, hd, h => by
    have e := fixT_on (hd f (by simp)) t h
    have h2 : (fixT (f.on t) k).2.2 = true := by rw [e]
    rw [plug, fixT_plug C (f.on t) k (fun x hx => hd x (by simp [hx])) h2, e]
    rfl
/-- At a node on the way, none below leaning. -/
theorem fixT_here {f : Fm IP} {k : Int} (hd : (f.left = true → k < f.a.1) ∧ (f.left = false → f.a.1 < k)) (t : MT IP) (h : (fixT t k).2.2 = false) (l r : MT IP) (he : f.on t = .node f.a l r) : fixT (f.on t) k = if leans l r = true then (evenT (kM (f.on t)), (f.on t).size, true) else (f.on t, 0, false) := by
  obtain ⟨a, left, o⟩ := f
  cases left with
  | true =>
    have := hd.1 rfl
    simp only at this
    simp only [Fm.on, if_true] at he ⊢
    injection he with _ h1 h2
    subst h1 h2
    rw [fixT, if_neg (by omega), if_pos this, if_neg (by simp [h])]
    split
    · simp only [MT.size]; rw [show t.size + 1 + o.size = t.size + o.size + 1 by omega]
    · rfl
  | false =>
    have := hd.2 rfl
    simp only at this
    simp only [Fm.on, Bool.false_eq_true, if_false] at he ⊢
    injection he with _ h1 h2
    subst h1 h2
    rw [fixT, if_neg (by omega), if_neg (by omega), if_neg (by simp [h])]
    split
    · simp only [MT.size]; rw [show o.size + 1 + t.size = o.size + t.size + 1 by omega]
    · rfl
theorem on_node (f : Fm IP) (t : MT IP) : ∃ l r, f.on t = .node f.a l r := by
  unfold Fm.on
  split
  · exact ⟨_, _, rfl⟩
  · exact ⟨_, _, rfl⟩
/-- The yard. -/
def YR (w : World) (gy base : Nat) (S : Gt) : Prop :=
  TB w 95 eFst ⟨gy, 0, none⟩ base S.T ∧ w.cell? ⟨gy, 1, none⟩ = some (.int .i64 (S.many : Int)) ∧ w.cell? ⟨gy, 2, none⟩ = some (.int .i64 (S.most : Int)) ∧ w.cell? ⟨gy, 3, none⟩ = some (.int .i64 (S.built : Int)) ∧ (∀ j, w.frozen? ⟨gy, j, none⟩ = false) ∧ base ≤ gy
end Go.Proofs.YtpkkajglbklboaaDoor
namespace Go.Proofs.YtpkkajglbklboaaDoor
open Go.ChangeShapes Go.WideShapes Go.ChangeAt Go.RowKit
set_option linter.unusedVariables false
set_option linter.unusedSimpArgs false

def YPost (gy : Nat) (S : Gt) (w0 : World) (e : Ending) (w' : World) : Prop := e = .returned (.tuple #[]) ∧ YR w' gy w0.heap.size S ∧ Kp w0 w'
theorem yr_put {w w1 w0 : World} {gy : Nat} {T t t' : MT IP} {F Fc Ft Ft' : List Nat} {key : Int} {C : List (Fm IP)} {q : Addr} {p p' : Option Addr} {many most built : Nat}
    (ha : At_ w 95 eFst Prod.fst ⟨gy, 0, none⟩ T F key C q t p Fc Ft) (hy : gy ∉ F) (hF : ∀ x ∈ F, w0.heap.size ≤ x) (hFl : ∀ x ∈ F, x < w.heap.size) (hB : w0.heap.size ≤ gy) (hk0 : Kp w0 w)
    (hgl : gy < w.heap.size) (hf : ∀ j, w.frozen? ⟨gy, j, none⟩ = false) (hk : Kp w w1) (hm : MR w1 95 eFst t' p' Ft') (hn : ∀ x ∈ Ft', w.heap.size ≤ x)
    (c1 : w1.cell? ⟨gy, 1, none⟩ = some (.int .i64 (many : Int))) (c2 : w1.cell? ⟨gy, 2, none⟩ = some (.int .i64 (most : Int))) (c3 : w1.cell? ⟨gy, 3, none⟩ = some (.int .i64 (built : Int))) :
    YR (w1.setCell q (.pointer p')) gy w0.heap.size ⟨plug C t', many, most, built⟩ ∧ Kp w0 (w1.setCell q (.pointer p')) := by
  have hfcl : ∀ x ∈ Fc, x ∈ F := fun x hx => ha.sub x (.inr hx)
  have hqb : q = ⟨gy, 0, none⟩ ∨ q.block ∈ F := ha.zp.at_.imp id (fun h => hfcl _ h)
  have hqj : ∀ j, 0 < j → q ≠ ⟨gy, j, none⟩ := fun j hj e => by
    rcases hqb with h | h
    · rw [h] at e
      injection e with _ e
      omega
    · rw [e] at h; exact hy h
  have hql : q.block < w.heap.size := by
    rcases hqb with h | h
    · rw [h]; exact hgl
    · exact hFl _ h
  obtain ⟨p0, F0, g1, g2, g3, g4, g5⟩ := ha.put hy hk hgl (hf 0) hm (fun x hx hx' => by have := hn x hx; have := hFl x (hfcl x hx'); omega) (fun h => by have := hn _ h; omega) (fun x hx => .inr (hn x hx))
  have hk1 : Kp w0 (w1.setCell q (.pointer p')) := g5.kp hk0 fun i hi => by
    rcases hi with rfl | hi
    · exact hB
    · exact hF i hi
  have hz := hk0.size
  refine ⟨⟨⟨p0, F0, g1, g4, g2, fun h => ?_, fun x hx => ?_⟩, ?_, ?_, ?_, fun j => ?_, hB⟩, hk1⟩
  · rcases g3 _ h with h | h
    · exact hy h
    · simp only at h; omega
  · rcases g3 x hx with h | h
    · exact hF x h
    · omega
  · rw [World.cell?_setCell_other _ _ _ _ (hqj 1 (by omega))]; exact c1
  · rw [World.cell?_setCell_other _ _ _ _ (hqj 2 (by omega))]; exact c2
  · rw [World.cell?_setCell_other _ _ _ _ (hqj 3 (by omega))]; exact c3
  · rw [World.frozen?_setCell]; exact (hk.frozen hgl).trans (hf j)
set_option maxRecDepth 100000 in
set_option maxHeartbeats 4000000 in
theorem gtAnew_any {w w0 : World} {gy : Nat} {T t : MT IP} {F Fc Ft : List Nat} {key : Int} {C : List (Fm IP)} {q : Addr} {p : Option Addr} (many most built : Nat)
    (ha : At_ w 95 eFst Prod.fst ⟨gy, 0, none⟩ T F key C q t p Fc Ft) (hy : gy ∉ F) (hF : ∀ x ∈ F, w0.heap.size ≤ x) (hFl : ∀ x ∈ F, x < w.heap.size) (hB : w0.heap.size ≤ gy) (hk : Kp w0 w)
    (c1 : w.cell? ⟨gy, 1, none⟩ = some (.int .i64 (many : Int))) (c2 : w.cell? ⟨gy, 2, none⟩ = some (.int .i64 (most : Int))) (c3 : w.cell? ⟨gy, 3, none⟩ = some (.int .i64 (built : Int))) (hf : ∀ j, w.frozen? ⟨gy, j, none⟩ = false)
    (hs : t.size ≤ 100000) (hb : built + t.size ≤ 1000000000) :
    Calls Tryd.prog 47 #[.pointer (some ⟨gy, 0, none⟩), .pointer (some q)] w (YPost gy ⟨plug C (evenT (kM t)), many, most, built + t.size⟩ w0) := by
  have hgl : gy < w.heap.size := World.block_lt_of_cell? _ _ c1
  have cq := ha.cell
  have HKE := hide (gtKeys_any t p Ft w ha.mr (by omega))
  have HA := hide ha
  have HY := hide hy
  have HF := hide hF
  have HFL := hide hFl
  have HFZ := hide hf
  have HK := hide hk
  have HSZ := hide hs
  have HBD := hide hb
  have HGL := hide hgl
  have HBB := hide hB
  have HC1 := hide c1
  have HC2 := hide c2
  have HC3 := hide c3
  clear ha hy hF hFl hf hk hs hb hgl hB c1 c2 c3
  go_enter Tryd.func47, Tryd.ntmps47
  go_wp2_with fail
  with_reducible refine HKE.out.mono ?_
  rintro e w1 ⟨v1, rfl, ho1, hb1⟩
  have kk1 := Kp.of hb1
  obtain ⟨A1, a1, rfl, _, _⟩ := ho1.rd.shape
  have d3 : w1.cell? ⟨gy, 3, none⟩ = some (.int .i64 (built : Int)) := kk1.cell HC3.out
  have f3 : w1.frozen? ⟨gy, 3, none⟩ = false := (kk1.frozen HGL.out).trans (HFZ.out 3)
  have hw : IntKind.i64.wrap ((built : Int) + ((kM t).length : Int)) = ((built + (kM t).length : Nat) : Int) := by rw [IntWalk.i64_in _ (by rw [kM_len]; have := HBD.out; omega)]; omega
  have HKL : Hid ((kM t).length = t.size) := hide (kM_len t)
  have HO1 := hide ho1
  obtain ⟨nb, hnb⟩ : ∃ nb, nb = built + (kM t).length := ⟨_, rfl⟩
  rw [← hnb] at hw
  have HNB := hide hnb
  clear ho1 hb1 cq hnb
  go_wp2_with fail
  obtain ⟨W2, hW2⟩ : ∃ W2, W2 = w1.setCell ⟨gy, 3, none⟩ (.int .i64 (nb : Int)) := ⟨_, rfl⟩
  rw [← hW2]
  have hkf2 : Kf (fun i => i = gy) w1 W2 := by rw [hW2]; exact (Kf.refl _ _).set (.inl rfl)
  have hgl1 : gy < w1.heap.size := Nat.lt_of_lt_of_le HGL.out kk1.size
  have HRD : Hid (RD W2 eInt (.slice A1 (kM t).length a1) (kM t)) := hide (HO1.out.rd.kf hkf2 (fun _ k hk e => by have h1 := (HO1.out.lt k hk).1; have := HGL.out; subst e; omega))
  have hEV := gtEven_any (kM t).length (kM t) _ W2 (Nat.le_refl _) (by have := HSZ.out; have := HKL.out; omega) HRD.out
  have HA2 : Hid (At_ W2 95 eFst Prod.fst ⟨gy, 0, none⟩ T F key C q t p Fc Ft) := hide ((HA.out.kp kk1 HGL.out HFL.out).keep (by rw [hW2, World.cell?_setCell_other _ _ _ _ (by simp)]) (by rw [hW2, World.frozen?_setCell]) (fun i hi => hkf2.block (Nat.lt_of_lt_of_le (HFL.out i hi) kk1.size) (fun e => HY.out (e ▸ hi))))
  have HE1 : Hid (W2.cell? ⟨gy, 1, none⟩ = some (.int .i64 (many : Int))) := hide (by rw [hW2, World.cell?_setCell_other _ _ _ _ (by simp)]; exact kk1.cell HC1.out)
  have HE2 : Hid (W2.cell? ⟨gy, 2, none⟩ = some (.int .i64 (most : Int))) := hide (by rw [hW2, World.cell?_setCell_other _ _ _ _ (by simp)]; exact kk1.cell HC2.out)
  have HE3 : Hid (W2.cell? ⟨gy, 3, none⟩ = some (.int .i64 (nb : Int))) := hide (by rw [hW2]; exact World.cell?_setCell_same' w1 _ _ (by rw [d3]; rfl))
  have HZ2 : Hid (W2.heap.size = w1.heap.size) := hide (by rw [hW2]; simp [World.setCell])
  have HF2 : Hid (∀ j, W2.frozen? ⟨gy, j, none⟩ = false) := hide (fun j => by rw [hW2, World.frozen?_setCell]; exact (kk1.frozen HGL.out).trans (HFZ.out j))
  have HK2 : Hid (Kp w0 W2) := hide (hkf2.kp (HK.out.trans kk1) (fun i hi => by subst hi; exact HBB.out))
  have HEV := hide hEV
  have HK1 := hide kk1
  have HGL2 : Hid (gy < W2.heap.size) := hide (by rw [HZ2.out]; exact hgl1)
  have HFL2 : Hid (∀ x ∈ F, x < W2.heap.size) := hide (fun x hx => by rw [HZ2.out]; exact Nat.lt_of_lt_of_le (HFL.out x hx) kk1.size)
  clear hW2 hkf2 hgl1 hEV d3 f3 hw kk1
  with_reducible refine HEV.out.mono ?_
  rintro e w3 ⟨p3, F3, rfl, hm3, hn3, hb3⟩
  have kk3 := Kp.of hb3
  have c9 : w3.cell? q = some (.pointer p) := kk3.cell HA2.out.cell
  have f9 : w3.frozen? q = false := (kk3.frozen (World.block_lt_of_cell? _ _ HA2.out.cell)).trans HA2.out.fz
  have HYP := hide (yr_put HA2.out HY.out HF.out HFL2.out HBB.out HK2.out HGL2.out HF2.out kk3 hm3 hn3 (kk3.cell HE1.out) (kk3.cell HE2.out) (kk3.cell HE3.out))
  clear hm3 hn3 hb3 kk3
  go_wp2
  exact bodyPost_ret (v := .tuple #[]) (by simp [results, Tryd.results47, go_sem]) rfl ⟨rfl, by have h := HYP.out.1; rw [HNB.out, HKL.out] at h; exact h, HYP.out.2⟩
end Go.Proofs.YtpkkajglbklboaaDoor
