/-
  A stable sort by blocks: rows whose blocks are sorted. No program. Conditions: none.
  slices.SortStableFunc at spots: the row is sorted, those of one depth stay in order. Conditions: the row is the call's own (OW).
-/
import Derived.Test.YthbapflabjogkaaHeapOneM23
import Derived.Test.YthbapflabjogkaaHeapOneM33

namespace Go.Proofs.Ythbapflabjogkaa
open Go.ChangeShapes Go.WideShapes Go.ChangeAt Go.RowKit
set_option linter.unusedVariables false
set_option linter.unusedSimpArgs false

section
variable {α : Type} {key : α → Int}
/-- The part from lo to hi is sorted. -/
def SrtAt (key : α → Int) (l : List α) (lo hi : Nat) : Prop := ∀ i j (h1 : i < l.length) (h2 : j < l.length), lo ≤ i → i < j → j < hi → key l[i] ≤ key l[j]
theorem SrtAt.mono {l : List α} {lo hi lo' hi' : Nat} (h : SrtAt key l lo hi) (h1 : lo ≤ lo') (h2 : hi' ≤ hi) : SrtAt key l lo' hi' := fun i j a b c d e => h i j a b (by omega) d (by omega)
theorem SrtAt.all {l : List α} {lo hi : Nat} (h : SrtAt key l lo hi) (h0 : lo = 0) (h1 : l.length ≤ hi) : SortedK key l :=
  List.pairwise_iff_getElem.2 fun i j hi hj hij => h i j hi hj (by omega) hij (by omega)
theorem get_of? {l : List α} {i : Nat} {x : α} (h : i < l.length) (e : l[i]? = some x) : l[i] = x := by
  rw [List.getElem?_eq_getElem h] at e; injection e
theorem mid_at (P S Q : List α) (k : Nat) (hk : k < S.length) : (P ++ S ++ Q)[P.length + k]? = some S[k] := by
  rw [List.append_assoc, List.getElem?_append_right (by omega), Nat.add_sub_cancel_left, List.getElem?_append_left hk, List.getElem?_eq_getElem hk]
theorem out_at (P S S' Q : List α) (hl : S'.length = S.length) (k : Nat) (hk : k < P.length ∨ P.length + S.length ≤ k) : (P ++ S' ++ Q)[k]? = (P ++ S ++ Q)[k]? := by
  rcases hk with hk | hk
  · rw [List.append_assoc, List.append_assoc, List.getElem?_append_left hk, List.getElem?_append_left hk]
  · rw [List.getElem?_append_right (by simp only [List.length_append]; omega), List.getElem?_append_right (by simp only [List.length_append]; omega)]
    congr 1
    simp only [List.length_append]; omega
/-- A part in the midst. -/
theorem SrtAt.mid {P S Q : List α} (h : SrtAt key (P ++ S ++ Q) P.length (P.length + S.length)) : SortedK key S :=
  List.pairwise_iff_getElem.2 fun i j hi hj hij => by
    have l : (P ++ S ++ Q).length = P.length + S.length + Q.length := by simp only [List.length_append]
    have := h (P.length + i) (P.length + j) (by omega) (by omega) (by omega) (by omega) (by omega)
    rwa [get_of? _ (mid_at P S Q i hi), get_of? _ (mid_at P S Q j hj)] at this
theorem SrtAt.of_mid {P S Q : List α} (h : SortedK key S) : SrtAt key (P ++ S ++ Q) P.length (P.length + S.length) := fun i j hi hj a b c => by
  obtain ⟨i', rfl⟩ : ∃ i', i = P.length + i' := ⟨i - P.length, by omega⟩
  obtain ⟨j', rfl⟩ : ∃ i', j = P.length + i' := ⟨j - P.length, by omega⟩
  rw [get_of? _ (mid_at P S Q i' (by omega)), get_of? _ (mid_at P S Q j' (by omega))]
  exact (List.pairwise_iff_getElem.1 h) _ _ (by omega) (by omega) (by omega)
/-- A part beside the one that is turned stays as it was. -/
theorem SrtAt.beside {P S S' Q : List α} {lo hi : Nat} (h : SrtAt key (P ++ S ++ Q) lo hi) (hl : S'.length = S.length) (hd : hi ≤ P.length ∨ P.length + S.length ≤ lo) : SrtAt key (P ++ S' ++ Q) lo hi := fun i j hi hj a b c => by
  have hlen : (P ++ S' ++ Q).length = (P ++ S ++ Q).length := by simp only [List.length_append]; omega
  have := h i j (by omega) (by omega) a b c
  have e1 := out_at P S S' Q hl i (by omega)
  have e2 := out_at P S S' Q hl j (by omega)
  rw [List.getElem?_eq_getElem hi, List.getElem?_eq_getElem (by omega)] at e1
  rw [List.getElem?_eq_getElem hj, List.getElem?_eq_getElem (by omega)] at e2
  injection e1 with e1
  injection e2 with e2
  rw [e1, e2]
  exact this
theorem SrtAt.end_ {l : List α} {lo hi hi' : Nat} (h : SrtAt key l lo hi) (h1 : l.length ≤ hi) : SrtAt key l lo hi' := fun i j a b c d e => h i j a b c d (by omega)
theorem SrtAt.none {l : List α} {lo hi : Nat} (h : l.length ≤ lo) : SrtAt key l lo hi := fun i j a b c d e => by omega
/-- All blocks of so many are sorted. -/
def BlS (key : α → Int) (bs : Nat) (l : List α) : Prop := ∀ r, SrtAt key l (r * bs) (r * bs + bs)
/-- While blocks are turned: those ahead of a. -/
def BlTo (key : α → Int) (c q : Nat) (l : List α) : Prop := ∀ r, r < q → SrtAt key l (r * c) (r * c + c)
def BlFrom (key : α → Int) (bs a : Nat) (l : List α) : Prop := ∀ r, SrtAt key l (a + r * bs) (a + r * bs + bs)
theorem BlTo.next {P S S' Q : List α} {c q : Nat} (h : BlTo key c q (P ++ S ++ Q)) (hl : S'.length = S.length) (hP : P.length = q * c) (hS : SortedK key S') (hn : S.length = c) : BlTo key c (q + 1) (P ++ S' ++ Q) := fun r hr => by
  rcases Nat.lt_or_ge r q with h1 | h1
  · refine (h r h1).beside hl (.inl ?_)
    have : (r + 1) * c ≤ q * c := Nat.mul_le_mul_right c h1
    rw [Nat.succ_mul] at this
    omega
  · obtain rfl : r = q := by omega
    have := SrtAt.of_mid (P := P) (Q := Q) hS
    rw [hP] at this
    exact this.mono (Nat.le_refl _) (by omega)
/-- Behind the last part, which reaches to the end. -/
theorem BlTo.last {P S S' : List α} {c q : Nat} (h : BlTo key c q (P ++ S ++ [])) (hl : S'.length = S.length) (hP : P.length = q * c) (hS : SortedK key S') (hn : S.length ≤ c) : BlS key c (P ++ S' ++ []) := fun r => by
  rcases Nat.lt_trichotomy r q with h1 | h1 | h1
  · refine (h r h1).beside hl (.inl ?_)
    have : (r + 1) * c ≤ q * c := Nat.mul_le_mul_right c h1
    rw [Nat.succ_mul] at this
    omega
  · subst h1
    have := SrtAt.of_mid (P := P) (Q := []) hS
    rw [hP] at this
    exact this.end_ (by simp only [List.length_append, List.length_nil]; omega)
  · refine SrtAt.none ?_
    have : (q + 1) * c ≤ r * c := Nat.mul_le_mul_right c h1
    rw [Nat.succ_mul] at this
    simp only [List.length_append, List.length_nil]; omega
theorem BlFrom.next {P S S' Q : List α} {bs a : Nat} (h : BlFrom key bs a (P ++ S ++ Q)) (hl : S'.length = S.length) (hP : P.length = a) (hn : S.length = 2 * bs) : BlFrom key bs (a + 2 * bs) (P ++ S' ++ Q) := fun r => by
  have := h (r + 2)
  rw [show a + (r + 2) * bs = a + 2 * bs + r * bs by rw [Nat.add_mul]; omega] at this
  exact this.beside hl (.inr (by omega))
/-- No part is left to merge: the blocks are twice as long. -/
theorem BlTo.whole {l : List α} {bs c q a : Nat} (h : BlTo key c q l) (h2 : BlFrom key bs a l) (hc : c = 2 * bs) (ha : a = q * c) (hm : l.length ≤ a + bs) : BlS key c l := fun r => by
  rcases Nat.lt_trichotomy r q with h1 | h1 | h1
  · exact h r h1
  · subst h1
    have := h2 0
    rw [Nat.zero_mul, Nat.add_zero, ha] at this
    exact this.end_ (by omega)
  · refine SrtAt.none ?_
    have : (q + 1) * c ≤ r * c := Nat.mul_le_mul_right c h1
    rw [Nat.succ_mul] at this
    omega
theorem BlFrom.parts {P U V Q : List α} {bs a : Nat} (h : BlFrom key bs a (P ++ (U ++ V) ++ Q)) (hP : P.length = a) (hU : U.length = bs) (hV : V.length ≤ bs) : SortedK key U ∧ SortedK key V := by
  constructor
  · have h0 := h 0
    rw [Nat.zero_mul, Nat.add_zero] at h0
    refine SrtAt.mid (P := P) (Q := V ++ Q) ?_
    rw [hP, hU]
    simpa only [List.append_assoc] using h0
  · have h0 := h 1
    rw [Nat.one_mul] at h0
    refine SrtAt.mid (P := P ++ U) (Q := Q) ?_
    have : (P ++ U).length = a + bs := by simp only [List.length_append]; omega
    rw [this]
    have h1 := h0.mono (Nat.le_refl _) (show a + bs + V.length ≤ a + bs + bs by omega)
    simpa only [List.append_assoc] using h1
/-- A list cut in three. -/
theorem cut3 (l : List α) {lo hi : Nat} (h1 : lo ≤ hi) (h2 : hi ≤ l.length) : ∃ P S Q, l = P ++ S ++ Q ∧ P.length = lo ∧ S.length = hi - lo := by
  refine ⟨l.take lo, (l.drop lo).take (hi - lo), l.drop hi, ?_, by simp; omega, by simp; omega⟩
  have e1 : (l.drop lo).drop (hi - lo) = l.drop hi := by rw [List.drop_drop]; congr 1; omega
  rw [List.append_assoc, ← e1, List.take_append_drop, List.take_append_drop]
end
end Go.Proofs.Ythbapflabjogkaa
namespace Go.Proofs.Ythbapflabjogkaa
open Go.ChangeShapes Go.WideShapes Go.ChangeAt Go.RowKit
set_option linter.unusedVariables false
set_option linter.unusedSimpArgs false

def S1R (Bk : Nat) (e : TypeId) (g N c : Nat) (l : List IP) (w : World) (av bv : Value) (wr : World) : Prop :=
  ∃ (q a : Nat) (l' : List IP), a = q * 20 ∧ av = .int .i64 (a : Int) ∧ bv = .int .i64 ((a + 20 : Nat) : Int) ∧ a ≤ N ∧ OW wr Bk e ePair (.slice (some ⟨g, 0, none⟩) N c) l' ∧ StabEq nk l l' ∧ l'.length = l.length ∧ BlTo nk 20 q l' ∧ Kf (fun k => k = g) w wr
def S2R (Bk : Nat) (e : TypeId) (g N c : Nat) (l : List IP) (w : World) (sv : Value) (wr : World) : Prop :=
  ∃ (bs : Nat) (l' : List IP), sv = .int .i64 (bs : Int) ∧ 0 < bs ∧ bs ≤ 2 * N + 20 ∧ OW wr Bk e ePair (.slice (some ⟨g, 0, none⟩) N c) l' ∧ StabEq nk l l' ∧ l'.length = l.length ∧ BlS nk bs l' ∧ Kf (fun k => k = g) w wr
def S3R (Bk : Nat) (e : TypeId) (g N c bs : Nat) (l : List IP) (w : World) (av bv : Value) (wr : World) : Prop :=
  ∃ (q a : Nat) (l' : List IP), a = q * (2 * bs) ∧ av = .int .i64 (a : Int) ∧ bv = .int .i64 ((a + 2 * bs : Nat) : Int) ∧ a ≤ N ∧ OW wr Bk e ePair (.slice (some ⟨g, 0, none⟩) N c) l' ∧ StabEq nk l l' ∧ l'.length = l.length ∧ BlTo nk (2 * bs) q l' ∧ BlFrom nk bs a l' ∧ Kf (fun k => k = g) w wr
def StPost (Bk : Nat) (e : TypeId) (g N c : Nat) (l : List IP) (w : World) (en : Ending) (w' : World) : Prop :=
  en = .returned (.tuple #[]) ∧ ∃ l', SortedK nk l' ∧ StabEq nk l l' ∧ l'.length = l.length ∧ OW w' Bk e ePair (.slice (some ⟨g, 0, none⟩) N c) l' ∧ Kf (fun i => i = g) w w'
set_option maxRecDepth 100000 in
set_option maxHeartbeats 16000000 in
theorem stable_any (l : List IP) (N c g B : Nat) (w : World) (hn : N ≤ 1000) (ho : OW w B 37 ePair (.slice (some ⟨g, 0, none⟩) N c) l) :
    Calls Try.prog 33 #[.slice (some ⟨g, 0, none⟩) N c, .int .i64 (N : Int), .func (.func 21) #[] #[]] w (StPost B 37 g N c l w) := by
  have hNl := ho.len
  have HN := hide hNl
  have HREL : Hid (S1R B 37 g N c l w (.int .i64 0) (.int .i64 20) w) := hide ⟨0, 0, l, rfl, rfl, rfl, by omega, ho, StabEq.refl _, rfl, fun r hr => by omega, Kf.refl _ _⟩
  clear ho hNl
  go_enter Try.func33, Try.ntmps33
  go_wp2
  go_loopw [7, 8] (S1R B 37 g N c l w) (fun av _ _ => N + 1 - (intOf av).toNat)
  case atStart => exact HREL.out
  case round =>
    clear HREL
    obtain ⟨q, a, l', ha, rfl, rfl, haN, ho, hst, hl', hbt, hkf⟩ := hrel
    have HST := hide hst
    have HL' := hide hl'
    have HKF := hide hkf
    have HA := hide ha
    obtain ⟨wb, rfl⟩ : ∃ x, x = wr := ⟨_, rfl⟩
    obtain ⟨b, hb⟩ : ∃ b, b = a + 20 := ⟨_, rfl⟩
    rw [← hb]
    by_cases hlt : b ≤ N
    · have d0 : decide (b ≤ N) = true := decide_eq_true hlt
      obtain ⟨P, S, Q, rfl, hP, hS⟩ := cut3 l' (show a ≤ b by omega) (show b ≤ l'.length by have := HN.out; omega)
      have HIS := hide (insSort_any P S Q a b N c g B wb hP.symm (by omega) ho.len hn ho)
      have HP := hide hP
      have HS := hide hS
      have HBT := hide hbt
      have HB := hide hb
      have w1 : IntKind.i64.wrap ((b : Int) + 20) = ((b + 20 : Nat) : Int) := by rw [IntWalk.i64_in _ (by omega)]; omega
      clear ho hst hl' hbt hkf ha hP hS hb
      go_wp2_with fail
      with_reducible refine HIS.out.mono ?_
      rintro e w5 ⟨rfl, S', hs', ho5, hk5⟩
      have HS' := hide hs'
      have HO5 := hide ho5
      have HK5 := hide (HKF.out.trans hk5 (fun _ _ h => h))
      clear hs' ho5 hk5
      go_wp2
      go_roundw
      case rel => exact ⟨q + 1, b, P ++ S' ++ Q, by rw [Nat.succ_mul, ← HA.out, HB.out], rfl, by go_num, by omega, HO5.out, HST.out.trans (HS'.out.2.1.mid P Q), by have := HL'.out; have := HS'.out.2.2; simp only [List.length_append] at *; omega, HBT.out.next HS'.out.2.2 (by rw [HP.out, HA.out]) HS'.out.1 (by have := HS.out; have := HB.out; omega), HK5.out⟩
      case measure => have := HB.out; simp [intOf]; omega
    · have d0 : decide (b ≤ N) = false := decide_eq_false hlt
      obtain ⟨P, S, Q, rfl, hP, hS⟩ := cut3 l' (show a ≤ N by omega) (show N ≤ l'.length by have := HN.out; omega)
      obtain rfl : Q = [] := List.eq_nil_of_length_eq_zero (by have := HN.out; simp only [List.length_append] at hl'; omega)
      have HIS := hide (insSort_any P S [] a N N c g B wb hP.symm (by omega) ho.len hn ho)
      have HP := hide hP
      have HS := hide hS
      have HBT := hide hbt
      have HB := hide hb
      clear ho hst hl' hbt hkf ha hP hS hb
      go_wp2_with fail
      with_reducible refine HIS.out.mono ?_
      rintro e w5 ⟨rfl, S', hs', ho5, hk5⟩
      have HREL2 : Hid (S2R B 37 g N c l w (.int .i64 20) w5) := hide ⟨20, P ++ S' ++ [], rfl, by omega, by omega, ho5, HST.out.trans (hs'.2.1.mid P []), by have := HL'.out; have := hs'.2.2; simp only [List.length_append] at *; omega, HBT.out.last hs'.2.2 (by rw [HP.out, HA.out]) hs'.1 (by have := HS.out; have := HB.out; omega), HKF.out.trans hk5 (fun _ _ h => h)⟩
      clear hs' ho5 hk5 HIS HBT
      go_wp2
      go_loopw [6] (S2R B 37 g N c l w) (fun sv _ => N + 1 - (intOf sv).toNat)
      case atStart => exact HREL2.out
      case round =>
        clear HREL2
        obtain ⟨bs, l2, rfl, hbs, hbsN, ho, hst, hl2, hbl, hkf⟩ := hrel
        obtain ⟨wc, rfl⟩ : ∃ x, x = wr := ⟨_, rfl⟩
        have HST := hide hst
        have HL2 := hide hl2
        have HKF := hide hkf
        have HBL := hide hbl
        have HO := hide ho
        clear hst hl2 hkf hbl ho
        by_cases hlt2 : bs < N
        · have d1 : decide (bs < N) = true := decide_eq_true hlt2
          obtain ⟨cc, hcc⟩ : ∃ cc, cc = 2 * bs := ⟨_, rfl⟩
          have w2 : IntKind.i64.wrap (2 * (bs : Int)) = (cc : Int) := by rw [IntWalk.i64_in _ (by omega)]; omega
          have w2' : IntKind.i64.wrap ((bs : Int) * 2) = (cc : Int) := by rw [IntWalk.i64_in _ (by omega)]; omega
          have HREL3 : Hid (S3R B 37 g N c bs l w (.int .i64 0) (.int .i64 (cc : Int)) wc) := hide ⟨0, 0, l2, by rw [Nat.zero_mul], rfl, by rw [hcc, Nat.zero_add], by omega, HO.out, HST.out, HL2.out, fun r hr => by omega, fun r => by rw [Nat.zero_add]; exact HBL.out r, HKF.out⟩
          have HCC := hide hcc
          clear hcc
          go_wp2
          go_loopw [7, 8] (S3R B 37 g N c bs l w) (fun av _ _ => N + 1 - (intOf av).toNat)
          case atStart => exact HREL3.out
          case round =>
            clear HREL3 HST HL2 HKF HBL HO
            obtain ⟨q2, a2, l3, ha2, rfl, rfl, haN2, ho, hst, hl3, hbt, hbf, hkf⟩ := hrel
            have HST := hide hst
            have HL3 := hide hl3
            have HKF := hide hkf
            have HA2 := hide ha2
            obtain ⟨wd, rfl⟩ : ∃ x, x = wr := ⟨_, rfl⟩
            obtain ⟨b2, hb2⟩ : ∃ b, b = a2 + 2 * bs := ⟨_, rfl⟩
            obtain ⟨m2, hm2⟩ : ∃ b, b = a2 + bs := ⟨_, rfl⟩
            have w3 : IntKind.i64.wrap ((a2 : Int) + (bs : Int)) = (m2 : Int) := by rw [IntWalk.i64_in _ (by omega)]; omega
            rw [← hb2]
            by_cases hlt3 : b2 ≤ N
            · have d2 : decide (b2 ≤ N) = true := decide_eq_true hlt3
              obtain ⟨P2, S2, Q2, rfl, hP2, hS2⟩ := cut3 l3 (show a2 ≤ b2 by omega) (show b2 ≤ l3.length by have := HN.out; omega)
              obtain ⟨U, V, rfl, hU⟩ : ∃ U V, S2 = U ++ V ∧ U.length = bs := ⟨S2.take bs, S2.drop bs, (List.take_append_drop _ _).symm, by simp only [List.length_take]; omega⟩
              have hV : V.length = bs := by simp only [List.length_append] at hS2; omega
              have hsrt := hbf.parts hP2 hU (by omega)
              have HSM := hide (symMerge_any (U.length + V.length) P2 U V Q2 a2 m2 b2 N c g B wd (Nat.le_refl _) hP2.symm (by omega) (by omega) (by omega) (by omega) hn hsrt.1 hsrt.2 ho)
              have HP2 := hide hP2
              have HU := hide hU
              have HV := hide hV
              have HBT := hide hbt
              have HBF := hide hbf
              have HB2 := hide hb2
              have w4 : IntKind.i64.wrap ((b2 : Int) + (cc : Int)) = ((b2 + 2 * bs : Nat) : Int) := by have := HCC.out; rw [IntWalk.i64_in _ (by omega)]; omega
              clear ho hst hl3 hbt hbf hkf ha2 hP2 hS2 hb2 hU hV hsrt hm2
              go_wp2_with fail
              with_reducible refine HSM.out.mono ?_
              rintro e w7 ⟨rfl, S', hs', ho7, hk7⟩
              have HS' := hide hs'
              have HO7 := hide ho7
              have HK7 := hide (HKF.out.trans hk7 (fun _ _ h => h))
              clear hs' ho7 hk7
              go_wp2
              go_roundw
              case rel => exact ⟨q2 + 1, b2, P2 ++ S' ++ Q2, by rw [Nat.succ_mul, ← HA2.out, HB2.out], rfl, by simp, by omega, HO7.out, HST.out.trans (HS'.out.2.1.mid P2 Q2), by have := HL3.out; have := HS'.out.2.2; simp only [List.length_append] at *; omega,
                HBT.out.next HS'.out.2.2 (by rw [HP2.out, HA2.out]) HS'.out.1 (by have := HU.out; have := HV.out; simp only [List.length_append]; omega), by rw [HB2.out]; exact HBF.out.next HS'.out.2.2 HP2.out (by have := HU.out; have := HV.out; simp only [List.length_append]; omega), HK7.out⟩
              case measure => have := HB2.out; simp [intOf]; omega
            · have d2 : decide (b2 ≤ N) = false := decide_eq_false hlt3
              by_cases hmN : m2 < N
              · have d3 : decide (m2 < N) = true := decide_eq_true hmN
                obtain ⟨P2, S2, Q2, rfl, hP2, hS2⟩ := cut3 l3 (show a2 ≤ N by omega) (show N ≤ l3.length by have := HN.out; omega)
                obtain rfl : Q2 = [] := List.eq_nil_of_length_eq_zero (by have := HN.out; simp only [List.length_append] at hl3; omega)
                obtain ⟨U, V, rfl, hU⟩ : ∃ U V, S2 = U ++ V ∧ U.length = bs := ⟨S2.take bs, S2.drop bs, (List.take_append_drop _ _).symm, by simp only [List.length_take]; omega⟩
                have hV : V.length = N - m2 := by simp only [List.length_append] at hS2; omega
                have hsrt := hbf.parts hP2 hU (by omega)
                have HSM := hide (symMerge_any (U.length + V.length) P2 U V [] a2 m2 N N c g B wd (Nat.le_refl _) hP2.symm (by omega) (by omega) (by omega) (by omega) hn hsrt.1 hsrt.2 ho)
                have HP2 := hide hP2
                have HVN := hide (show (U ++ V).length ≤ 2 * bs by rw [List.length_append]; omega)
                have HBT := hide hbt
                clear ho hst hl3 hbt hbf hkf ha2 hP2 hS2 hb2 hU hV hsrt hm2 hmN
                go_wp2_with fail
                with_reducible refine HSM.out.mono ?_
                rintro e w7 ⟨rfl, S', hs', ho7, hk7⟩
                have HS' := hide hs'
                have HO7 := hide ho7
                have HK7 := hide (HKF.out.trans hk7 (fun _ _ h => h))
                clear hs' ho7 hk7
                go_wp2
                go_roundw
                case rel => exact ⟨cc, P2 ++ S' ++ [], rfl, by have := HCC.out; omega, by have := HCC.out; omega, HO7.out, HST.out.trans (HS'.out.2.1.mid P2 []), by have := HL3.out; have := HS'.out.2.2; simp only [List.length_append] at *; omega, by rw [HCC.out]; exact HBT.out.last HS'.out.2.2 (by rw [HP2.out, HA2.out]) HS'.out.1 HVN.out, HK7.out⟩
                case measure => have := HCC.out; simp [intOf]; omega
              · have d3 : decide (m2 < N) = false := decide_eq_false hmN
                have HWH := hide (hbt.whole hbf rfl ha2 (by have := HN.out; omega))
                have HO3 := hide ho
                clear ho hst hl3 hbt hbf hkf ha2 hb2 hm2 hmN
                go_wp2
                go_roundw
                case rel => exact ⟨cc, l3, rfl, by have := HCC.out; omega, by have := HCC.out; omega, HO3.out, HST.out, HL3.out, by rw [HCC.out]; exact HWH.out, HKF.out⟩
                case measure => have := HCC.out; simp [intOf]; omega
        · have d1 : decide (bs < N) = false := decide_eq_false hlt2
          have hfin : SortedK nk l2 := by
            have := HBL.out 0
            rw [Nat.zero_mul, Nat.zero_add] at this
            exact this.all rfl (by have := HL2.out; have := HN.out; omega)
          have HF := hide hfin
          clear hfin
          go_wp2
          exact bodyPost_ret (v := .tuple #[]) (by simp [results, Try.results33, go_sem]) rfl ⟨rfl, l2, HF.out, HST.out, HL2.out, HO.out, HKF.out⟩
end Go.Proofs.Ythbapflabjogkaa
