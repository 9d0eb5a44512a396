/-
  goat.keys, goat.told, goat.deepest, goat.Deepest, goat.Even: what they answer
  Laws of the tree that is built anew: its keys, how deep it is, how much was built
  The yard in memory; a way down to a link, kept, taken back up; the links that were met
-/
import Derived.Test.YtcljlnagpjilaaaGreatDoorG27

set_option linter.unusedVariables false
set_option linter.unusedSimpArgs false
set_option maxRecDepth 100000
set_option maxHeartbeats 8000000
namespace Go.Proofs.YtcljlnagpjilaaaGreatDoor
open Go.ChangeShapes Go.WideShapes Go.ChangeAt Go.RowKit
theorem gtKeys_any (t : MT IP) : ∀ (p : Option Addr) (F : List Nat) (w : World), MR w 256 eFst t p F -> t.size <= 1000000 -> Calls Tryz.prog 197 #[.pointer p] w (RetOW 3 eInt (kM t) w) := by
 induction t with
 | nil =>
  intro p F w hm hs
  obtain ⟨rfl, rfl⟩ := hm
  go_enter Tryz.func197, Tryz.ntmps197
  go_wp2
  go_ret
  exact ⟨_, rfl, OW.nil, Below.refl _ _⟩
 | node a l r ihl ihr =>
  intro p F w hm hs
  obtain ⟨b, pl, pr, Fl, Fr, rfl, rfl, hbc, _, _, _, hml, hmr⟩ := hm
  simp only [MT.size] at hs
  have HC1 := hide (fun W (h : Kp w W) => ihl pl Fl W (hml.kp h) (by omega))
  have HC2 := hide (fun W (h : Kp w W) => ihr pr Fr W (hmr.kp h) (by omega))
  obtain ⟨k0, hk0⟩ : ∃ k0, k0 = a.1 := ⟨_, rfl⟩
  have c0 : w.cell? ⟨b, 0, none⟩ = some (.int .i64 k0) := by rw [hk0]; exact hbc.cell 0
  have cL : w.cell? ⟨b, 1, none⟩ = some (.pointer pl) := hbc.cell 1
  have cR : w.cell? ⟨b, 2, none⟩ = some (.pointer pr) := hbc.cell 2
  have HK : Hid (kM (.node a l r) = [kM l, [k0], kM r].flatten) := hide (by rw [kM_node, hk0]; simp)
  have HCC := hide (fun W v (h : RDS W eInt v [kM l, [k0], kM r]) => concatI [kM l, [k0], kM r] v W h (by simp [kM_len]; omega))
  have KS : Hid (∀ W', Kp w W' -> (W'.cell? ⟨b, 0, none⟩ = some (.int .i64 k0) /\ W'.cell? ⟨b, 1, none⟩ = some (.pointer pl) /\ W'.cell? ⟨b, 2, none⟩ = some (.pointer pr) /\ Kp w W')) :=
   hide fun W' h => ⟨h.cell c0, h.cell cL, h.cell cR, h⟩
  have K0 := Kp.refl w
  clear hml hmr hbc hs ihl ihr hk0
  go_enter Tryz.func197, Tryz.ntmps197
  go_wp2_with fail
  go_region_held3 (fun w' => w'.cell? ⟨b, 0, none⟩ = some (.int .i64 k0) /\ w'.cell? ⟨b, 1, none⟩ = some (.pointer pl) /\ w'.cell? ⟨b, 2, none⟩ = some (.pointer pr) /\ Kp w w')
   ((go_split_ands; refine KS.out _ ?_; (exact Kp.auto)))
   (first
    | (go_at_call_of 197 (Value.pointer pl); (with_reducible refine (HC1.out _ ?_).mono ?_); (go_split_ands; (exact Kp.auto)); rintro e w1 ⟨v1, rfl, ho1, hb1⟩; obtain ⟨X1, N1, Y1, rfl⟩ := ho1.rd.slice; have hr1 := ho1.rd)
    | (go_at_call_of 197 (Value.pointer pr); (with_reducible refine (HC2.out _ ?_).mono ?_); (go_split_ands; (exact Kp.auto)); rintro e w2 ⟨v2, rfl, ho2, hb2⟩; obtain ⟨X2, N2, Y2, rfl⟩ := ho2.rd.slice; have hr2 := ho2.rd)
    | (go_at_call 205; (with_reducible refine (HCC.out _ _ ?_).mono ?_); (focus (refine RDS.new3 ?_ ?_ ?_ ?_; (focus (first | rfl | (simp; done))); (exact RD.auto); (exact RD.auto); (exact RD.auto))); rintro e w3 ⟨v3, rfl, ho3, hb3⟩))
  all_goals
   go_wp2
   go_ret
   have k3 : Kp w w3 := by (go_split_ands; (exact Kp.auto))
   refine ⟨v3, rfl, ?_, k3.bel⟩
   rw [HK.out]
   refine ho3.more ?_
   refine Kp.size (w := w) ?_
   (go_split_ands; (exact Kp.auto))
theorem gtTold_any (t : MT IP) (p : Option Addr) (F : List Nat) (w : World) (hm : MR w 256 eFst t p F) (hs : t.size <= 1000) : Calls Tryz.prog 140 #[.pointer p] w (RetRD ePair (t.spotsBy Prod.fst 0) w) := by
 have HO := hide (OB.new (B := w.heap.size) (st := 72) (e := 108) (E := ePair) w (Nat.le_refl _))
 have HC := hide (goat_spots_any w.heap.size w.heap.size (Nat.le_refl _) t p F 0 [] _ (hm.kp (Kp.refl w).alloc) (by omega) (by omega) (by simp; omega) HO.out (by simp))
 clear hm
 go_enter Tryz.func140, Tryz.ntmps140
 go_wp2_with fail
 with_reducible refine HC.out.mono ?_
 rintro e w1 ⟨rfl, ho1, hk1⟩
 have k1 := hk1.none (Kp.refl w).alloc (Nat.le_refl _) (by simp [go_sem])
 rw [List.nil_append] at ho1
 obtain ⟨u, hb, hu, hn⟩ := ho1
 have g0 := hb.cell 0
 obtain ⟨A3, N3, c3, rfl⟩ := hu.rd.slice
 have HU := hide hu.rd
 have K1 := hide k1
 clear hk1 hb hu hn k1
 go_wp2
 go_ret
 exact ⟨_, rfl, HU.out, K1.out.bel⟩
def DpRel (n : Nat) (w : World) (dv tv uv : Value) (wr : World) : Prop :=
 ∃ d A B : Nat, d <= 18 /\ A = 3 ^ (d + 1) /\ B = 2 ^ (d + 1) /\ dv = .int .i64 (d : Int) /\ tv = .int .i64 (A : Int) /\ uv = .int .i64 (B : Int) /\ deepL n (18 - d) d = deepF n /\ w = wr
theorem pow_bounds (d : Nat) (h : d <= 18) : 3 ^ (d + 1) <= 3 ^ 19 /\ 2 ^ (d + 1) <= 2 ^ 19 := ⟨Nat.pow_le_pow_right (by omega) (by omega), Nat.pow_le_pow_right (by omega) (by omega)⟩
theorem pow_nums : (3 : Nat) ^ 19 = 1162261467 /\ (2 : Nat) ^ 19 = 524288 := by decide +kernel
theorem gtDeepest_any (n : Nat) (hn : n <= 1000) (w : World) : Calls Tryz.prog 177 #[.int .i64 (n : Int)] w (fun e w' => e = .returned (.int .i64 (deepF n : Int)) /\ w = w') := by
 have HLT := hide (deepF_lt n hn)
 go_enter Tryz.func177, Tryz.ntmps177
 go_wp2
 go_loopw [3, 4, 5] (DpRel n w) (fun d _ _ _ => 19 - (intOf d).toNat)
 case atStart => exact ⟨0, 3, 2, by omega, rfl, rfl, rfl, rfl, rfl, rfl, rfl⟩
 case round =>
  obtain ⟨d, A, B, hd, hA, hB, rfl, rfl, rfl, hl, rfl⟩ := hrel
  have hd17 : d <= 17 := by
   rcases Nat.lt_or_ge d 18 with h | h
   ·omega
   ·have : d = 18 := by omega
    subst this
    have e : deepL n (18 - 18) 18 = 18 := rfl
    have := HLT.out
    omega
  have hb := pow_bounds d hd
  rw [<- hA, <- hB, pow_nums.1, pow_nums.2] at hb
  obtain ⟨hb1, hb2⟩ := hb
  obtain ⟨NB, hNB⟩ : ∃ NB, NB = n * B := ⟨_, rfl⟩
  have hnb : NB <= 1000 * 524288 := by rw [hNB]; exact Nat.mul_le_mul hn hb2
  have hmul : (n : Int) * (B : Int) = (NB : Int) := by rw [hNB]; exact (Int.natCast_mul n B).symm
  have hw1 : IntKind.i64.wrap ((n : Int) * (B : Int)) = (NB : Int) := by rw [hmul]; exact IntWalk.i64_in _ (by omega)
  have hw2 : IntKind.i64.wrap (3 * (A : Int)) = ((3 * A : Nat) : Int) := by rw [IntWalk.i64_in _ (by omega)]; omega
  have hw3 : IntKind.i64.wrap (2 * (B : Int)) = ((2 * B : Nat) : Int) := by rw [IntWalk.i64_in _ (by omega)]; omega
  have hw4 : IntKind.i64.wrap ((d : Int) + 1) = ((d + 1 : Nat) : Int) := by rw [IntWalk.i64_in _ (by omega)]; omega
  have hst : deepL n (18 - d) d = if 0 < n /\ A <= NB then deepL n (18 - (d + 1)) (d + 1) else d := by
   rw [show 18 - d = (18 - (d + 1)) + 1 by omega, deepL, hA, hNB, hB]
  have HL := hide hl
  have HST := hide hst
  have HA := hide hA
  have HB := hide hB
  have HNB := hide hNB
  clear hl hst hA hB hNB hmul
  by_cases hc : A <= NB
  ·have hn0 : 0 < n := by
    rcases Nat.eq_zero_or_pos n with h | h
    ·have h1 := HNB.out
     rw [h, Nat.zero_mul] at h1
     have h2 : 0 < A := by rw [HA.out]; exact Nat.pow_pos (by omega)
     omega
    ·exact h
   have HN : Hid (deepL n (18 - (d + 1)) (d + 1) = deepF n) := hide (by rw [<- HL.out, HST.out, if_pos ⟨hn0, hc⟩])
   have d1 : decide (A <= NB) = true := decide_eq_true hc
   have d2 : decide (0 < n) = true := decide_eq_true hn0
   have hc' : (A : Int) <= (NB : Int) := by omega
   have hn0' : (0 : Int) < (n : Int) := by omega
   go_wp2
   go_roundw
   case rel => exact ⟨d + 1, 3 * A, 2 * B, by omega, by rw [HA.out, Nat.pow_succ 3 (d + 1), Nat.mul_comm], by rw [HB.out, Nat.pow_succ 2 (d + 1), Nat.mul_comm], rfl, rfl, rfl, HN.out, rfl⟩
   case measure => simp [intOf]; omega
  ·have HN : Hid (d = deepF n) := hide (by rw [<- HL.out, HST.out, if_neg (fun h => hc h.2)])
   have d1 : decide (A <= NB) = false := decide_eq_false hc
   have hc' : ¬ (A : Int) <= (NB : Int) := by omega
   go_wp2
   go_ret
   exact ⟨by rw [<- HN.out]; rfl, rfl⟩
theorem ins_new_size : ∀ (T : MT IP) (k : Int), Up (kM T) -> k ∉ kM T -> (ins T (k, 0)).size = T.size + 1
 | .nil, k, _, _ => rfl
 | .node a l r, k, h, hn => by
  obtain ⟨h1, h2, h3, h4⟩ := up_node h
  rw [kM_node] at hn
  simp only [List.mem_append, List.mem_singleton, not_or] at hn
  unfold ins
  split
  ·simp only [MT.size, ins_new_size l k h1 hn.1.1]; omega
  ·split
   ·simp only [MT.size, ins_new_size r k h2 hn.2]; omega
   ·rename_i a1 a2; exact absurd (show k = a.1 by simp only at a1 a2; omega) hn.1.2
theorem ins_hT : ∀ (T : MT IP) (k : Int), hT (ins T (k, 0)) <= max (hT T) (lenT T k + 1)
 | .nil, k => by simp [ins, hT, lenT]
 | .node a l r, k => by
  have h1 := ins_hT l k
  have h2 := ins_hT r k
  unfold ins lenT
  simp only
  split
  ·rw [if_neg (by omega)]; simp only [hT]; omega
  ·split
   ·rw [if_neg (by omega)]; simp only [hT]; omega
   ·simp only [hT]; omega
theorem lenT_hT : ∀ (T : MT IP) (k : Int), lenT T k <= hT T
 | .nil, k => by simp [lenT]
 | .node a l r, k => by
  have h1 := lenT_hT l k
  have h2 := lenT_hT r k
  unfold lenT
  simp only [hT]
  split
  ·omega
  ·split <;> omega
theorem lenT_ins : ∀ (T : MT IP) (k : Int), k ∉ kM T -> lenT (ins T (k, 0)) k = lenT T k
 | .nil, k, _ => by simp [ins, lenT]
 | .node a l r, k, hn => by
  rw [kM_node] at hn
  simp only [List.mem_append, List.mem_singleton, not_or] at hn
  unfold ins
  simp only
  split
  ·rename_i h
   simp only [lenT, if_neg hn.1.2, if_pos h, lenT_ins l k hn.1.1]
  ·rename_i h
   rw [if_pos (by omega)]
   simp only [lenT, if_neg hn.1.2, if_neg h, lenT_ins r k hn.2]
theorem fixT_none : ∀ (T : MT IP) (k : Int), Up (kM T) -> k ∈ kM T -> (fixT T k).2.2 = false -> 3 ^ lenT T k <= T.size * 2 ^ lenT T k
 | .nil, k, _, hk, _ => by cases hk
 | .node a l r, k, h, hk, hf => by
  obtain ⟨h1, h2, h3, h4⟩ := up_node h
  rw [kM_node] at hk
  simp only [List.mem_append, List.mem_singleton] at hk
  unfold fixT at hf
  unfold lenT
  by_cases hka : k = a.1
  ·rw [if_pos hka]; simp [MT.size]; omega
  ·rw [if_neg hka] at hf ⊢
   by_cases hlt : k < a.1
   ·rw [if_pos hlt] at hf ⊢
    split at hf
    ·simp at hf
    ·rename_i hl
     split at hf
     ·simp at hf
     ·rename_i hb
      have hkl : k ∈ kM l := by
       rcases hk with (hk | hk) | hk
       ·exact hk
       ·exact absurd hk hka
       ·have := h4 k hk; omega
      have ih := fixT_none l k h1 hkl (by simpa using hl)
      simp only [leans, decide_eq_true_eq, Nat.not_lt] at hb
      have hs : 3 * l.size <= 2 * (l.size + r.size + 1) := by omega
      simp only [MT.size, Nat.pow_succ]
      have e1 : 3 ^ lenT l k * 3 <= (l.size * 2 ^ lenT l k) * 3 := Nat.mul_le_mul_right 3 ih
      have e2 : (3 * l.size) * 2 ^ lenT l k <= (2 * (l.size + r.size + 1)) * 2 ^ lenT l k := Nat.mul_le_mul_right _ hs
      have e3 : (l.size * 2 ^ lenT l k) * 3 = (3 * l.size) * 2 ^ lenT l k := by rw [Nat.mul_comm, <- Nat.mul_assoc]
      have e4 : (2 * (l.size + r.size + 1)) * 2 ^ lenT l k = (l.size + 1 + r.size) * (2 ^ lenT l k * 2) := by
       rw [show l.size + r.size + 1 = l.size + 1 + r.size by omega, Nat.mul_comm 2 (l.size + 1 + r.size), Nat.mul_assoc, Nat.mul_comm 2]
      omega
   ·rw [if_neg hlt] at hf ⊢
    split at hf
    ·simp at hf
    ·rename_i hl
     split at hf
     ·simp at hf
     ·rename_i hb
      have hkr : k ∈ kM r := by
       rcases hk with (hk | hk) | hk
       ·have := h3 k hk; omega
       ·exact absurd hk hka
       ·exact hk
      have ih := fixT_none r k h2 hkr (by simpa using hl)
      simp only [leans, decide_eq_true_eq, Nat.not_lt] at hb
      have hs : 3 * r.size <= 2 * (l.size + r.size + 1) := by omega
      simp only [MT.size, Nat.pow_succ]
      have e1 : 3 ^ lenT r k * 3 <= (r.size * 2 ^ lenT r k) * 3 := Nat.mul_le_mul_right 3 ih
      have e2 : (3 * r.size) * 2 ^ lenT r k <= (2 * (l.size + r.size + 1)) * 2 ^ lenT r k := Nat.mul_le_mul_right _ hs
      have e3 : (r.size * 2 ^ lenT r k) * 3 = (3 * r.size) * 2 ^ lenT r k := by rw [Nat.mul_comm, <- Nat.mul_assoc]
      have e4 : (2 * (l.size + r.size + 1)) * 2 ^ lenT r k = (l.size + 1 + r.size) * (2 ^ lenT r k * 2) := by
       rw [show l.size + r.size + 1 = l.size + 1 + r.size by omega, Nat.mul_comm 2 (l.size + 1 + r.size), Nat.mul_assoc, Nat.mul_comm 2]
      omega
theorem even_le (T : MT IP) (H : Nat) (h : T.size < 2 ^ H) : hT (evenT (kM T)) <= H := by
 obtain ⟨_, h2, h3⟩ := evenT_h (kM T)
 rw [kM_len] at h2 h3
 rcases Nat.eq_zero_or_pos T.size with h0 | h0
 ·rw [h3 h0]; omega
 ·rcases Nat.lt_or_ge H (hT (evenT (kM T))) with h1 | h1
  ·have := h2 h0
   have h4 : 2 ^ H <= 2 ^ (hT (evenT (kM T)) - 1) := Nat.pow_le_pow_right (by omega) (by omega)
   omega
  ·exact h1
theorem fixT_low : ∀ (T : MT IP) (k : Int) (H : Nat), Up (kM T) -> k ∉ kM T -> hT T <= H -> lenT T k = H -> (fixT (ins T (k, 0)) k).2.2 = true -> hT (fixT (ins T (k, 0)) k).1 <= H
 | .nil, k, H, _, _, _, _, hf => by simp [ins, fixT] at hf
 | .node a l r, k, H, hu, hn, hh, hl, hf => by
  obtain ⟨h1, h2, h3, h4⟩ := up_node hu
  rw [kM_node] at hn
  simp only [List.mem_append, List.mem_singleton, not_or] at hn
  simp only [hT] at hh
  obtain ⟨H', rfl⟩ : ∃ H', H = H' + 1 := ⟨H - 1, by omega⟩
  have sl := size_hT l
  have sr := size_hT r
  have pl : 2 ^ hT l <= 2 ^ H' := Nat.pow_le_pow_right (by omega) (by omega)
  have pr : 2 ^ hT r <= 2 ^ H' := Nat.pow_le_pow_right (by omega) (by omega)
  by_cases hlt : k < a.1
  ·have e : ins (.node a l r) (k, 0) = .node a (ins l (k, 0)) r := by rw [ins, if_pos hlt]
   rw [e] at hf ⊢
   rw [lenT, if_neg hn.1.2, if_pos hlt] at hl
   have hsz := ins_new_size l k h1 hn.1.1
   rw [fixT, if_neg hn.1.2, if_pos hlt] at hf ⊢
   by_cases hfl : (fixT (ins l (k, 0)) k).2.2 = true
   ·rw [if_pos hfl]
    have ih := fixT_low l k H' h1 hn.1.1 (by omega) (by omega) hfl
    simp only [hT]; omega
   ·rw [if_neg hfl] at hf ⊢
    by_cases hb : leans (ins l (k, 0)) r = true
    ·rw [if_pos hb]
     simp only [leans, decide_eq_true_eq] at hb
     refine even_le _ _ ?_
     simp only [MT.size, Nat.pow_succ]
     omega
    ·rw [if_neg hb] at hf; simp at hf
  ·have hgt : a.1 < k := by have := hn.1.2; omega
   have e : ins (.node a l r) (k, 0) = .node a l (ins r (k, 0)) := by rw [ins, if_neg hlt, if_pos hgt]
   rw [e] at hf ⊢
   rw [lenT, if_neg hn.1.2, if_neg hlt] at hl
   have hsz := ins_new_size r k h2 hn.2
   rw [fixT, if_neg hn.1.2, if_neg hlt] at hf ⊢
   by_cases hfl : (fixT (ins r (k, 0)) k).2.2 = true
   ·rw [if_pos hfl]
    have ih := fixT_low r k H' h2 hn.2 (by omega) (by omega) hfl
    simp only [hT]; omega
   ·rw [if_neg hfl] at hf ⊢
    by_cases hb : leans l (ins r (k, 0)) = true
    ·rw [if_pos hb]
     simp only [leans, decide_eq_true_eq] at hb
     refine even_le _ _ ?_
     simp only [MT.size, Nat.pow_succ]
     omega
    ·rw [if_neg hb] at hf; simp at hf
theorem delMin_hT : ∀ T : MT IP, hT (delMin T) <= hT T
 | .nil => by simp [delMin]
 | .node a .nil r => by simp [delMin, hT]
 | .node a (.node b x y) r => by
  have := delMin_hT (.node b x y)
  rw [delMin]
  simp only [hT] at this ⊢
  omega
theorem delTop_hT (a : IP) (l r : MT IP) : hT (delTop l r) <= hT (.node a l r) := by
 cases l with
 | nil => simp [delTop, hT]
 | node b x y =>
  cases r with
  | nil => simp [delTop, hT]
  | node c u z =>
   have := delMin_hT (.node c u z)
   rw [delTop_nn]
   simp only [hT] at this ⊢
   omega
theorem del_hT : ∀ (T : MT IP) (k : Int), hT (del T k) <= hT T
 | .nil, k => by simp [del]
 | .node a l r, k => by
  have h1 := del_hT l k
  have h2 := del_hT r k
  unfold del
  split
  ·simp only [hT]; omega
  ·split
   ·simp only [hT]; omega
   ·exact delTop_hT a l r
def gap (a b : Nat) : Nat := max a b - min a b - 1
def phi : MT IP -> Nat
 | .nil => 0
 | .node _ l r => phi l + phi r + gap l.size r.size
theorem evenT_phi : ∀ l, phi (evenT l) = 0 := half_ind (by rw [evenT_nil]; rfl) fun l h i1 i2 => by
 rw [evenT_cons l h]
 simp only [phi, i1, i2, evenT_size, List.length_take, List.length_drop, gap]
 omega
theorem ins_phi : ∀ (T : MT IP) (k : Int), Up (kM T) -> k ∉ kM T -> phi (ins T (k, 0)) <= phi T + lenT T k
 | .nil, k, _, _ => by simp [ins, phi, lenT, gap, MT.size]
 | .node a l r, k, h, hn => by
  obtain ⟨h1, h2, h3, h4⟩ := up_node h
  rw [kM_node] at hn
  simp only [List.mem_append, List.mem_singleton, not_or] at hn
  unfold ins lenT
  simp only
  rw [if_neg hn.1.2]
  split
  ·have ih := ins_phi l k h1 hn.1.1
   have hs := ins_new_size l k h1 hn.1.1
   simp only [phi, hs, gap]; omega
  ·rw [if_pos (by have := hn.1.2; omega)]
   have ih := ins_phi r k h2 hn.2
   have hs := ins_new_size r k h2 hn.2
   simp only [phi, hs, gap]; omega
theorem fixT_phi : ∀ (T : MT IP) (k : Int), (fixT T k).2.2 = true -> (fixT T k).2.1 + 3 * phi (fixT T k).1 <= 3 * phi T
 | .nil, k, h => by simp [fixT] at h
 | .node a l r, k, h => by
  have i1 := fixT_phi l k
  have i2 := fixT_phi r k
  have s1 := fixT_size l k
  have s2 := fixT_size r k
  unfold fixT at h ⊢
  split at h
  ·simp at h
  ·rename_i hka
   rw [if_neg hka]
   split at h
   ·rename_i hlt
    rw [if_pos hlt]
    split at h
    ·rename_i hf
     rw [if_pos hf]
     have := i1 hf
     simp only [phi, s1]; omega
    ·rename_i hf
     rw [if_neg hf]
     split at h
     ·rename_i hb
      rw [if_pos hb]
      simp only [leans, decide_eq_true_eq] at hb
      simp only [evenT_phi, phi, gap]; omega
     ·simp at h
   ·rename_i hlt
    rw [if_neg hlt]
    split at h
    ·rename_i hf
     rw [if_pos hf]
     have := i2 hf
     simp only [phi, s2]; omega
    ·rename_i hf
     rw [if_neg hf]
     split at h
     ·rename_i hb
      rw [if_pos hb]
      simp only [leans, decide_eq_true_eq] at hb
      simp only [evenT_phi, phi, gap]; omega
     ·simp at h
theorem fixT_nb : ∀ (T : MT IP) (k : Int), (fixT T k).2.2 = false -> (fixT T k).1 = T /\ (fixT T k).2.1 = 0
 | .nil, k, _ => ⟨rfl, rfl⟩
 | .node a l r, k, h => by
  unfold fixT at h ⊢
  split at h
  ·rename_i hka; rw [if_pos hka]; exact ⟨rfl, rfl⟩
  ·rename_i hka
   rw [if_neg hka]
   split at h
   ·rename_i hlt
    rw [if_pos hlt]
    split at h
    ·simp at h
    ·rename_i hf
     rw [if_neg hf]
     split at h
     ·simp at h
     ·rename_i hb; rw [if_neg hb]; exact ⟨rfl, rfl⟩
   ·rename_i hlt
    rw [if_neg hlt]
    split at h
    ·simp at h
    ·rename_i hf
     rw [if_neg hf]
     split at h
     ·simp at h
     ·rename_i hb; rw [if_neg hb]; exact ⟨rfl, rfl⟩
theorem delMin_sz : ∀ T : MT IP, T ≠ .nil -> (delMin T).size + 1 = T.size
 | .nil, h => absurd rfl h
 | .node a .nil r, _ => by simp [delMin, MT.size]; omega
 | .node a (.node b x y) r, _ => by
  have := delMin_sz (.node b x y) (by simp)
  rw [delMin]
  simp only [MT.size] at this ⊢
  omega
theorem delMin_phi : ∀ T : MT IP, phi (delMin T) <= phi T + hT T
 | .nil => by simp [delMin]
 | .node a .nil r => by simp only [delMin, phi, hT]; omega
 | .node a (.node b x y) r => by
  have h1 := delMin_phi (.node b x y)
  have h2 := delMin_sz (.node b x y) (by simp)
  rw [delMin]
  have e1 : phi (.node a (delMin (.node b x y)) r) = phi (delMin (.node b x y)) + phi r + gap (delMin (.node b x y)).size r.size := rfl
  have e2 : phi (.node a (.node b x y) r) = phi (.node b x y) + phi r + gap (MT.node b x y).size r.size := rfl
  have e3 : hT (.node a (.node b x y) r) = max (hT (.node b x y)) (hT r) + 1 := rfl
  rw [e1, e2, e3, <- h2]
  unfold gap; omega
theorem delTop_phi (a : IP) (l r : MT IP) : phi (delTop l r) <= phi (.node a l r) + hT (.node a l r) := by
 cases l with
 | nil => simp only [delTop, phi]; omega
 | node b x y =>
  cases r with
  | nil => simp only [delTop, phi]; omega
  | node c u z =>
   have h1 := delMin_phi (.node c u z)
   have h2 := delMin_sz (.node c u z) (by simp)
   rw [delTop_nn]
   have e1 : phi (.node (minA (.node c u z)) (.node b x y) (delMin (.node c u z))) = phi (.node b x y) + phi (delMin (.node c u z)) + gap (MT.node b x y).size (delMin (.node c u z)).size := rfl
   have e2 : phi (.node a (.node b x y) (.node c u z)) = phi (.node b x y) + phi (.node c u z) + gap (MT.node b x y).size (MT.node c u z).size := rfl
   have e3 : hT (.node a (.node b x y) (.node c u z)) = max (hT (.node b x y)) (hT (.node c u z)) + 1 := rfl
   rw [e1, e2, e3, <- h2]
   unfold gap; omega
theorem del_sz : ∀ (T : MT IP) (k : Int), Up (kM T) -> k ∈ kM T -> (del T k).size + 1 = T.size := fun T k h hk => by
 rw [<- kM_len, <- kM_len, kM_del T k h]
 unfold ksDel
 obtain ⟨n, hn⟩ : ∃ n, n = kM T := ⟨_, rfl⟩
 rw [<- hn] at h hk ⊢
 clear hn
 induction n with
 | nil => cases hk
 | cons x n ih =>
  have hx := List.pairwise_cons.1 h
  by_cases e : x = k
  ·subst e
   rw [List.filter_cons_of_neg (by simp), List.filter_eq_self.2 fun y hy => by have := hx.1 y hy; simp; omega]
   simp
  ·rw [List.filter_cons_of_pos (by simp [e])]
   have hk' : k ∈ n := (List.mem_cons.1 hk).resolve_left fun h => e h.symm
   have := ih hk' hx.2
   simp only [List.length_cons]; omega
theorem del_phi : ∀ (T : MT IP) (k : Int), Up (kM T) -> k ∈ kM T -> phi (del T k) <= phi T + hT T
 | .nil, k, _, hk => by cases hk
 | .node a l r, k, h, hk => by
  obtain ⟨h1, h2, h3, h4⟩ := up_node h
  rw [kM_node] at hk
  simp only [List.mem_append, List.mem_singleton] at hk
  unfold del
  split
  ·rename_i hlt
   have hkl : k ∈ kM l := by
    rcases hk with (hk | hk) | hk
    ·exact hk
    ·omega
    ·have := h4 k hk; omega
   have ih := del_phi l k h1 hkl
   have hs := del_sz l k h1 hkl
   simp only [phi, hT]
   rw [<- hs]
   unfold gap; omega
  ·split
   ·rename_i hlt
    have hkr : k ∈ kM r := by
     rcases hk with (hk | hk) | hk
     ·have := h3 k hk; omega
     ·omega
     ·exact hk
    have ih := del_phi r k h2 hkr
    have hs := del_sz r k h2 hkr
    simp only [phi, hT]
    rw [<- hs]
    unfold gap; omega
   ·exact delTop_phi a l r
structure GtOk (S : Gt) : Prop where
 up : Up (kM S.T)
 many : S.many = S.T.size
 le : S.many <= S.most
 low : hT S.T <= deepF S.most + 1
theorem gtOk_new : GtOk ⟨.nil, 0, 0, 0⟩ := ⟨.nil, rfl, Nat.le_refl _, by simp [hT]⟩
theorem GtOk.put {S : Gt} (h : GtOk S) (k : Int) (hm : S.many < 1000) (hmo : S.most <= 1000) : GtOk (S.put k) := by
 unfold Gt.put
 by_cases hk : k ∈ kM S.T
 ·rw [if_pos hk]; exact h
 ·rw [if_neg hk]
  have hup : Up (kM (ins S.T (k, 0))) := by rw [kM_ins _ _ h.up]; exact up_ins h.up k
  have hsz := ins_new_size S.T k h.up hk
  have hms := h.many
  have hle := h.le
  have hmx : max S.most (S.many + 1) <= 1000 := by omega
  have hmono := deepF_mono S.most (max S.most (S.many + 1)) (by omega) hmx
  have hlow := h.low
  have hins := ins_hT S.T k
  have hlh := lenT_hT S.T k
  by_cases hd : lenT S.T k <= deepF (max S.most (S.many + 1))
  ·rw [if_pos hd]
   exact ⟨hup, by simp only; omega, by simp only; omega, by simp only; omega⟩
  ·rw [if_neg hd]
   have hlen : lenT S.T k = deepF (max S.most (S.many + 1)) + 1 := by omega
   have hfound : (fixT (ins S.T (k, 0)) k).2.2 = true := by
    cases hf : (fixT (ins S.T (k, 0)) k).2.2 with
    | true => rfl
    | false =>
     have hkm : k ∈ kM (ins S.T (k, 0)) := by rw [kM_ins _ _ h.up]; simp [ksIns]
     have h1 := fixT_none _ k hup hkm hf
     rw [lenT_ins _ _ hk, hlen, hsz] at h1
     have h2 := (deepF_spec (max S.most (S.many + 1)) (by omega) hmx).2
     have h3 : (S.T.size + 1) * 2 ^ (deepF (max S.most (S.many + 1)) + 1) <= max S.most (S.many + 1) * 2 ^ (deepF (max S.most (S.many + 1)) + 1) := Nat.mul_le_mul_right _ (by omega)
     omega
   have hlw := fixT_low S.T k _ h.up hk (show hT S.T <= deepF (max S.most (S.many + 1)) + 1 by omega) hlen hfound
   exact ⟨by simp only; rw [fixT_keys]; exact hup, by simp only; rw [fixT_size]; omega, by simp only; omega, hlw⟩
theorem GtOk.cut {S : Gt} (h : GtOk S) (k : Int) (hmo : S.most <= 1000) : GtOk (S.cut k) := by
 unfold Gt.cut
 by_cases hk : k ∈ kM S.T
 ·rw [if_neg (by simpa using hk)]
  have hup : Up (kM (del S.T k)) := by rw [kM_del _ _ h.up]; exact up_del h.up k
  have hsz := del_sz S.T k h.up hk
  have hms := h.many
  have hle := h.le
  have hlow := h.low
  have hdh := del_hT S.T k
  by_cases hd : 3 * (S.many - 1) < 2 * S.most
  ·rw [if_pos hd]
   refine ⟨by simp only; rw [evenT_keys]; exact hup, by simp only; rw [evenT_size, kM_len]; omega, Nat.le_refl _, ?_⟩
   simp only
   obtain ⟨_, e2, e3⟩ := evenT_h (kM (del S.T k))
   rw [kM_len] at e2 e3
   have hsm : (del S.T k).size = S.many - 1 := by omega
   rw [hsm] at e2 e3
   rcases Nat.eq_zero_or_pos (S.many - 1) with h0 | h0
   ·rw [e3 h0]; omega
   ·have h1 := e2 h0
    obtain ⟨x, hx⟩ : ∃ x, x = hT (evenT (kM (del S.T k))) - 1 := ⟨_, rfl⟩
    rw [<- hx] at h1
    have h2 : x <= deepF (S.many - 1) := by
     refine deepF_ge _ x h0 (by omega) ?_
     have h3 : 3 ^ x <= 4 ^ x := Nat.pow_le_pow_left (by omega) x
     have h4 : (4 : Nat) ^ x = 2 ^ x * 2 ^ x := by rw [<- Nat.mul_pow]
     have h5 : 2 ^ x * 2 ^ x <= (S.many - 1) * 2 ^ x := Nat.mul_le_mul_right _ h1
     omega
    omega
  ·rw [if_neg hd]
   exact ⟨hup, by simp only; omega, by simp only; omega, by simp only; omega⟩
 ·rw [if_pos hk]; exact h
def pot (S : Gt) : Nat := S.built + 3 * phi S.T + 2 * (S.most - S.many)
theorem GtOk.pot_put {S : Gt} (h : GtOk S) (k : Int) (D : Nat) (hD : deepF S.most <= D) : pot (S.put k) <= pot S + (if k ∈ kM S.T then 0 else 3 * (D + 1)) := by
 unfold Gt.put
 by_cases hk : k ∈ kM S.T
 ·rw [if_pos hk]; omega
 ·rw [if_neg hk, if_neg hk]
  have hph := ins_phi S.T k h.up hk
  have hlh := lenT_hT S.T k
  have hlow := h.low
  split
  ·simp only [pot]; omega
  ·cases hf : (fixT (ins S.T (k, 0)) k).2.2 with
   | true =>
    have := fixT_phi _ k hf
    simp only [pot]; omega
   | false =>
    obtain ⟨e1, e2⟩ := fixT_nb _ k hf
    simp only [pot, e1, e2]; omega
theorem GtOk.pot_cut {S : Gt} (h : GtOk S) (k : Int) (D : Nat) (hD : deepF S.most <= D) : pot (S.cut k) <= pot S + (if k ∈ kM S.T then 3 * (D + 1) + 2 else 0) := by
 unfold Gt.cut
 by_cases hk : k ∈ kM S.T
 ·rw [if_neg (by simpa using hk), if_pos hk]
  have hph := del_phi S.T k h.up hk
  have hlow := h.low
  have hms := h.many
  have hle := h.le
  split
  ·simp only [pot, evenT_phi]; omega
  ·simp only [pot]; omega
 ·rw [if_pos hk, if_neg hk]; omega
section
variable {α : Type} {w w' : World} {nt : TypeId} {E : Enc α} {kf : α -> Int} {r0 : Addr} {T : MT α} {F : List Nat} {key : Int} {C : List (Fm α)} {q : Addr} {t : MT α} {p : Option Addr} {Fc Ft : List Nat}
theorem At_.keep (h : At_ w nt E kf r0 T F key C q t p Fc Ft) (hr : w'.cell? r0 = w.cell? r0) (hf : w'.frozen? r0 = w.frozen? r0) (hk : ∀ i ∈ F, w'.heap[i]? = w.heap[i]?) : At_ w' nt E kf r0 T F key C q t p Fc Ft := by
 have hz := h.zp.keep hr (fun i hi => hk i (h.sub i (.inr hi)))
 refine ⟨hz, ?_, ?_, MR.keep (fun i hi => hk i (h.sub i (.inl hi))) h.mr, h.dis, h.eq, h.dir, h.sub⟩
 ·rcases h.zp.at_ with e | hx
  ·rw [e, hr, <- e]; exact h.cell
  ·exact (World.cell?_of_block (hk _ (h.sub _ (.inr hx)))).trans h.cell
 ·rcases h.zp.at_ with e | hx
  ·rw [e, hf, <- e]; exact h.fz
  ·rw [World.frozen?_of_block (hk _ (h.sub _ (.inr hx)))]; exact h.fz
theorem At_.kp (h : At_ w nt E kf r0 T F key C q t p Fc Ft) (hk : Kp w w') (hr : r0.block < w.heap.size) (hF : ∀ x ∈ F, x < w.heap.size) : At_ w' nt E kf r0 T F key C q t p Fc Ft :=
 h.keep (World.cell?_of_block (hk.bel.block _ hr)) (hk.frozen hr) fun i hi => hk.bel.block i (hF i hi)
theorem At_.upf {f : Fm α} (h : At_ w nt E kf r0 T F key (f :: C) q t p Fc Ft) (hfr : w.frozen? r0 = false) :
  ∃ b q' Fc' Ft', q = ⟨b, lk E f.left, none⟩ /\ (∃ ph po, BC w b nt (fmC E f ph po)) /\ w.cell? q' = some (.pointer (some ⟨b, 0, none⟩)) /\ At_ w nt E kf r0 T F key C q' (f.on t) (some ⟨b, 0, none⟩) Fc' Ft' := by
 obtain ⟨hz, hc, hf, hm, hd, he, hdir, hs⟩ := h
 obtain ⟨b, ph, po, Fo, q', F', rfl, hb, ho, hz', hc', rfl, h1, h2, h3⟩ := hz
 have e := hb.cell (lk E f.left)
 rw [hc, fmC_link] at e
 injection e with e
 injection e with e
 subst e
 have hbt : b ∉ Ft := fun h => hd b h (by simp)
 have hto : ∀ x ∈ Ft, x ∉ Fo := fun x hx hx' => hd x hx (by simp [hx'])
 have hfq : w.frozen? q' = false := by
  rcases hz'.at_ with rfl | hx
  ·exact hfr
  ·obtain ⟨cs, hbc⟩ := hz'.bc _ hx
   have := hbc.frozen q'.off
   simp only [World.frozen?] at this ⊢
   exact this
 have hdir' : Dir kf C key := fun x hx => hdir x (by simp [hx])
 cases hfl : f.left with
 | true =>
  have hb' : BC w b nt (nodeC E f.a p po) := by simpa [fmC, hfl] using hb
  refine ⟨b, q', F', b :: (Ft ++ Fo), by simp [lk], ⟨p, po, hb⟩, hc', hz', hc', hfq, by simpa [Fm.on, hfl] using MR.mk hb' hbt h1 hto hm ho, ?_, he, hdir', ?_⟩
  ·intro x hx hx'
   rcases List.mem_cons.1 hx with rfl | hx
   ·exact h2 hx'
   ·rcases List.mem_append.1 hx with hx | hx
    ·exact hd x hx (by simp [hx'])
    ·exact h3 x hx hx'
  ·intro x hx
   refine hs x ?_
   simp only [List.mem_cons, List.mem_append] at hx ⊢
   rcases hx with (hx | hx | hx) | hx
   ·exact .inr (.inl hx)
   ·exact .inl hx
   ·exact .inr (.inr (.inl hx))
   ·exact .inr (.inr (.inr hx))
 | false =>
  have hb' : BC w b nt (nodeC E f.a po p) := by simpa [fmC, hfl] using hb
  refine ⟨b, q', F', b :: (Fo ++ Ft), by simp [lk], ⟨p, po, hb⟩, hc', hz', hc', hfq, by simpa [Fm.on, hfl] using MR.mk hb' h1 hbt (fun x hx hx' => hto x hx' hx) ho hm, ?_, he, hdir', ?_⟩
  ·intro x hx hx'
   rcases List.mem_cons.1 hx with rfl | hx
   ·exact h2 hx'
   ·rcases List.mem_append.1 hx with hx | hx
    ·exact h3 x hx hx'
    ·exact hd x hx (by simp [hx'])
  ·intro x hx
   refine hs x ?_
   simp only [List.mem_cons, List.mem_append] at hx ⊢
   rcases hx with (hx | hx | hx) | hx
   ·exact .inr (.inl hx)
   ·exact .inr (.inr (.inl hx))
   ·exact .inl hx
   ·exact .inr (.inr (.inr hx))
end
def ChL (w : World) (key : Int) (r0 : Addr) (L : List Addr) (e : Addr) : Prop :=
 (L ++ [e])[0]? = some r0 /\ ∀ i, i < L.length -> ∃ a b K, L[i]? = some a /\ w.cell? a = some (.pointer (some ⟨b, 0, none⟩)) /\ w.cell? ⟨b, 0, none⟩ = some (.int .i64 K) /\ (L ++ [e])[i + 1]? = some (if key < K then ⟨b, 1, none⟩ else ⟨b, 2, none⟩)
theorem ChL.start (w : World) (key : Int) (r0 : Addr) : ChL w key r0 [] r0 := ⟨rfl, fun i h => by simp at h⟩
theorem ChL.snoc {w : World} {key : Int} {r0 e : Addr} {L : List Addr} (h : ChL w key r0 L e) {b : Nat} {K : Int} (h1 : w.cell? e = some (.pointer (some ⟨b, 0, none⟩))) (h2 : w.cell? ⟨b, 0, none⟩ = some (.int .i64 K)) : ChL w key r0 (L ++ [e]) (if key < K then ⟨b, 1, none⟩ else ⟨b, 2, none⟩) := by
 obtain ⟨g1, g2⟩ := h
 refine ⟨?_, fun i hi => ?_⟩
 ·rw [List.getElem?_append_left (by simp)]; exact g1
 ·rw [List.length_append, List.length_singleton] at hi
  by_cases hl : i < L.length
  ·obtain ⟨a, b', K', e1, e2, e3, e4⟩ := g2 i hl
   refine ⟨a, b', K', ?_, e2, e3, ?_⟩
   ·rw [List.getElem?_append_left hl]; exact e1
   ·rw [List.getElem?_append_left (by simp; omega)]; exact e4
  ·obtain rfl : i = L.length := by omega
   refine ⟨e, b, K, ?_, h1, h2, ?_⟩
   ·rw [List.getElem?_append_right (Nat.le_refl _)]; simp
   ·rw [List.getElem?_append_right (by simp)]; simp
theorem ChL.keep {w w' : World} {key : Int} {r0 e : Addr} {L : List Addr} (h : ChL w key r0 L e) (h1 : ∀ a b, w.cell? a = some (.pointer (some b)) -> w'.cell? a = w.cell? a) (h2 : ∀ (b : Nat) K, w.cell? ⟨b, 0, none⟩ = some (.int .i64 K) -> w'.cell? ⟨b, 0, none⟩ = w.cell? ⟨b, 0, none⟩) : ChL w' key r0 L e := by
 obtain ⟨g1, g2⟩ := h
 refine ⟨g1, fun i hi => ?_⟩
 obtain ⟨a, b, K, e1, e2, e3, e4⟩ := g2 i hi
 exact ⟨a, b, K, e1, (h1 a _ e2).trans e2, (h2 b K e3).trans e3, e4⟩
theorem ChL.kp {w w' : World} {key : Int} {r0 e : Addr} {L : List Addr} (h : ChL w key r0 L e) (hk : Kp w w') : ChL w' key r0 L e :=
 h.keep (fun a b hc => (hk.cell hc).trans hc.symm) (fun b K hc => (hk.cell hc).trans hc.symm)
theorem ChL.set {w : World} {key : Int} {r0 e : Addr} {L : List Addr} (h : ChL w key r0 L e) {q : Addr} {u : Value} (h1 : ∀ b, w.cell? q ≠ some (.pointer (some b))) (h2 : q.off = 0 -> ∀ K, w.cell? q ≠ some (.int .i64 K)) : ChL (w.setCell q u) key r0 L e :=
 h.keep (fun a b hc => World.cell?_setCell_other _ _ _ _ (fun e => h1 b (e ▸ hc))) (fun b K hc => World.cell?_setCell_other _ _ _ _ (fun e => h2 (by rw [e]) K (e ▸ hc)))
theorem At_.chain {w : World} {nt : TypeId} {r0 : Addr} {T : MT IP} {F : List Nat} {key : Int} {L : List Addr} {e : Addr} (hc : ChL w key r0 L e) (hfr : w.frozen? r0 = false) : ∀ (C : List (Fm IP)) (q : Addr) (t : MT IP) (p : Option Addr) (Fc Ft : List Nat), At_ w nt eFst Prod.fst r0 T F key C q t p Fc Ft -> C.length <= L.length -> (L ++ [e])[C.length]? = some q
 | [], q, t, p, Fc, Ft, h, _ => by
  obtain ⟨rfl, _⟩ := h.zp
  exact hc.1
 | f :: C, q, t, p, Fc, Ft, h, hl => by
  obtain ⟨b, q', Fc', Ft', rfl, ⟨ph, po, hb⟩, hq', h'⟩ := h.upf hfr
  have ih := At_.chain hc hfr C q' _ _ _ _ h' (by simp at hl; omega)
  have hdir := h.dir f (by simp)
  obtain ⟨a, b', K, e1, e2, e3, e4⟩ := hc.2 C.length (by simp at hl; omega)
  rw [List.getElem?_append_left (by simp at hl; omega), e1] at ih
  injection ih with ih
  subst ih
  rw [hq'] at e2
  injection e2 with e2
  injection e2 with e2
  injection e2 with e2
  injection e2 with e2
  subst e2
  have hk : w.cell? ⟨b, 0, none⟩ = some (.int .i64 f.a.1) := by
   rw [hb.cell 0]
   unfold fmC nodeC
   split <;> rfl
  rw [hk] at e3
  injection e3 with e3
  injection e3 with _ e3
  subst e3
  rw [List.length_cons, e4]
  cases hfl : f.left with
  | true => rw [if_pos (hdir.1 hfl)]; rfl
  | false => rw [if_neg (by have := hdir.2 hfl; omega)]; rfl
theorem mem_on (f : Fm IP) (t : MT IP) (k : Int) (h : k ∈ kM t) : k ∈ kM (f.on t) := by
 obtain ⟨a, left, o⟩ := f
 cases left with
 | true => simp only [Fm.on, if_true, kM_node, List.mem_append, List.mem_singleton]; exact .inl (.inl h)
 | false => simp only [Fm.on, Bool.false_eq_true, if_false, kM_node, List.mem_append, List.mem_singleton]; exact .inr h
theorem mem_plug : ∀ (C : List (Fm IP)) (t : MT IP) (k : Int), k ∈ kM t -> k ∈ kM (plug C t)
 | [], t, k, h => h
 | f :: C, t, k, h => mem_plug C (f.on t) k (mem_on f t k h)
theorem up_on {f : Fm IP} {t : MT IP} (h : Up (kM (f.on t))) : Up (kM t) := by
 obtain ⟨a, left, o⟩ := f
 cases left with
 | true => simp only [Fm.on, if_true] at h; exact (up_node h).1
 | false => simp only [Fm.on, Bool.false_eq_true, if_false] at h; exact (up_node h).2.1
theorem notin_on {f : Fm IP} {t : MT IP} {k : Int} (hu : Up (kM (f.on t))) (hd : (f.left = true -> k < f.a.1) /\ (f.left = false -> f.a.1 < k)) (h : k ∉ kM t) : k ∉ kM (f.on t) := by
 obtain ⟨a, left, o⟩ := f
 cases left with
 | true =>
  simp only [Fm.on, if_true] at hu ⊢
  obtain ⟨_, _, h3, h4⟩ := up_node hu
  have := hd.1 rfl
  simp only at this
  simp only [kM_node, List.mem_append, List.mem_singleton, not_or]
  exact ⟨⟨h, by omega⟩, fun hx => by have := h4 k hx; omega⟩
 | false =>
  simp only [Fm.on, Bool.false_eq_true, if_false] at hu ⊢
  obtain ⟨_, _, h3, h4⟩ := up_node hu
  have := hd.2 rfl
  simp only at this
  simp only [kM_node, List.mem_append, List.mem_singleton, not_or]
  exact ⟨⟨fun hx => by have := h3 k hx; omega, by omega⟩, h⟩
theorem up_plug : ∀ (C : List (Fm IP)) (t : MT IP), Up (kM (plug C t)) -> Up (kM t)
 | [], t, h => h
 | f :: C, t, h => up_on (up_plug C (f.on t) h)
theorem notin_plug : ∀ (C : List (Fm IP)) (t : MT IP) (k : Int), Up (kM (plug C t)) -> Dir Prod.fst C k -> k ∉ kM t -> k ∉ kM (plug C t)
 | [], t, k, _, _, h => h
 | f :: C, t, k, hu, hd, h => notin_plug C (f.on t) k hu (fun x hx => hd x (by simp [hx])) (notin_on (up_plug C (f.on t) hu) (hd f (by simp)) h)
theorem lenT_on {f : Fm IP} {k : Int} (hd : (f.left = true -> k < f.a.1) /\ (f.left = false -> f.a.1 < k)) (t : MT IP) : lenT (f.on t) k = lenT t k + 1 := by
 obtain ⟨a, left, o⟩ := f
 cases left with
 | true =>
  have := hd.1 rfl
  simp only at this
  simp only [Fm.on, if_true, lenT]
  rw [if_neg (by omega), if_pos this]
 | false =>
  have := hd.2 rfl
  simp only at this
  simp only [Fm.on, Bool.false_eq_true, if_false, lenT]
  rw [if_neg (by omega), if_neg (by omega)]
theorem lenT_plug : ∀ (C : List (Fm IP)) (t : MT IP) (k : Int), Dir Prod.fst C k -> lenT (plug C t) k = C.length + lenT t k
 | [], t, k, _ => by simp [plug]
 | f :: C, t, k, hd => by
  rw [plug, lenT_plug C (f.on t) k (fun x hx => hd x (by simp [hx])), lenT_on (hd f (by simp))]
  simp only [List.length_cons]; omega
theorem fixT_on {f : Fm IP} {k : Int} (hd : (f.left = true -> k < f.a.1) /\ (f.left = false -> f.a.1 < k)) (t : MT IP) (h : (fixT t k).2.2 = true) : fixT (f.on t) k = (f.on (fixT t k).1, (fixT t k).2.1, true) := by
 obtain ⟨a, left, o⟩ := f
 cases left with
 | true =>
  have := hd.1 rfl
  simp only at this
  simp only [Fm.on, if_true]
  rw [fixT, if_neg (by omega), if_pos this, if_pos h]
 | false =>
  have := hd.2 rfl
  simp only at this
  simp only [Fm.on, Bool.false_eq_true, if_false]
  rw [fixT, if_neg (by omega), if_neg (by omega), if_pos h]
theorem fixT_plug : ∀ (C : List (Fm IP)) (t : MT IP) (k : Int), Dir Prod.fst C k -> (fixT t k).2.2 = true -> fixT (plug C t) k = (plug C (fixT t k).1, (fixT t k).2.1, true)
 | [], t, k, _, h => by rw [plug]; exact Prod.ext rfl (Prod.ext rfl h)
 | f :: C, t, k, hd, h => by
  have e := fixT_on (hd f (by simp)) t h
  have h2 : (fixT (f.on t) k).2.2 = true := by rw [e]
  rw [plug, fixT_plug C (f.on t) k (fun x hx => hd x (by simp [hx])) h2, e]
  rfl
theorem fixT_here {f : Fm IP} {k : Int} (hd : (f.left = true -> k < f.a.1) /\ (f.left = false -> f.a.1 < k)) (t : MT IP) (h : (fixT t k).2.2 = false) (l r : MT IP) (he : f.on t = .node f.a l r) : fixT (f.on t) k = if leans l r = true then (evenT (kM (f.on t)), (f.on t).size, true) else (f.on t, 0, false) := by
 obtain ⟨a, left, o⟩ := f
 cases left with
 | true =>
  have := hd.1 rfl
  simp only at this
  simp only [Fm.on, if_true] at he ⊢
  injection he with _ h1 h2
  subst h1 h2
  rw [fixT, if_neg (by omega), if_pos this, if_neg (by simp [h])]
  split
  ·simp only [MT.size]; rw [show t.size + 1 + o.size = t.size + o.size + 1 by omega]
  ·rfl
 | false =>
  have := hd.2 rfl
  simp only at this
  simp only [Fm.on, Bool.false_eq_true, if_false] at he ⊢
  injection he with _ h1 h2
  subst h1 h2
  rw [fixT, if_neg (by omega), if_neg (by omega), if_neg (by simp [h])]
  split
  ·simp only [MT.size]; rw [show o.size + 1 + t.size = o.size + t.size + 1 by omega]
  ·rfl
theorem on_node (f : Fm IP) (t : MT IP) : ∃ l r, f.on t = .node f.a l r := by
 unfold Fm.on
 split
 ·exact ⟨_, _, rfl⟩
 ·exact ⟨_, _, rfl⟩
def YR (w : World) (gy base : Nat) (S : Gt) : Prop :=
 TB w 256 eFst ⟨gy, 0, none⟩ base S.T /\ w.cell? ⟨gy, 1, none⟩ = some (.int .i64 (S.many : Int)) /\ w.cell? ⟨gy, 2, none⟩ = some (.int .i64 (S.most : Int)) /\ w.cell? ⟨gy, 3, none⟩ = some (.int .i64 (S.built : Int)) /\ (∀ j, w.frozen? ⟨gy, j, none⟩ = false) /\ base <= gy
end Go.Proofs.YtcljlnagpjilaaaGreatDoor
