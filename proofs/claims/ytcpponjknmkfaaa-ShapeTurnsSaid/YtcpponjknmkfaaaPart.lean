/-
  shape.part, shape.Of: what they answer. Conditions: the list reads as l (RD); of part: the variable holds a slice of the call's own (OB).
-/
import Derived.Test.YtcpponjknmkfaaaOutVar
import Derived.Test.YtcpponjknmkfaaaChk
namespace Go.Proofs.Ytcpponjknmkfaaa
open Go.ChangeShapes Go.WideShapes Go.ChangeAt Go.RowKit
set_option linter.unusedVariables false
set_option linter.unusedSimpArgs false

/-- How many at the head of the list are less. -/
def lessN (x : Int) : List Int → Nat
  | [] => 0
  | y :: t => if y < x then lessN x t + 1 else 0
theorem lessN_le (x : Int) : ∀ l : List Int, lessN x l ≤ l.length
  | [] => Nat.le_refl _
  | y :: t => by
    unfold lessN
    have := lessN_le x t
    split <;> simp <;> omega
theorem lessN_lt (x : Int) : ∀ (l : List Int) (j : Nat) (h : j < l.length), j < lessN x l → l[j] < x
  | y :: t, 0, _, h => by
    unfold lessN at h
    split at h
    · assumption
    · omega
  | y :: t, j + 1, hj, h => by
    unfold lessN at h
    split at h
    · exact lessN_lt x t j (by simpa using hj) (by omega)
    · omega
theorem lessN_at (x : Int) : ∀ (l : List Int) (h : lessN x l < l.length), ¬ l[lessN x l] < x
  | y :: t, h => by
    by_cases hy : y < x
    · have e : lessN x (y :: t) = lessN x t + 1 := by rw [lessN, if_pos hy]
      simp only [e] at h ⊢
      simpa using lessN_at x t (by simpa using h)
    · have e : lessN x (y :: t) = 0 := by rw [lessN, if_neg hy]
      simp only [e]
      simpa using hy
theorem lessN_is (x : Int) (l : List Int) (k : Nat) (hk : k ≤ l.length) (h1 : ∀ j (h : j < l.length), j < k → l[j] < x) (h2 : ∀ h : k < l.length, ¬ l[k] < x) : lessN x l = k := by
  rcases Nat.lt_trichotomy (lessN x l) k with h | h | h
  · exact absurd (h1 _ (by omega) h) (lessN_at x l (by omega))
  · exact h
  · exact absurd (lessN_lt x l k (by have := lessN_le x l; omega) h) (h2 (by have := lessN_le x l; omega))
def partF : Nat → List Int → Int → Bool × List IP
  | 0, _, _ => (true, [])
  | _ + 1, [], _ => (true, [])
  | n + 1, x :: t, d =>
    if (t.drop (lessN x t)).any (fun k => decide (k ≤ x)) then (false, [])
    else if (partF n (t.take (lessN x t)) (d + 1)).1 = false then (false, (partF n (t.take (lessN x t)) (d + 1)).2)
    else ((partF n (t.drop (lessN x t)) (d + 1)).1, (partF n (t.take (lessN x t)) (d + 1)).2 ++ [(x, d)] ++ (partF n (t.drop (lessN x t)) (d + 1)).2)
theorem partF_len : ∀ (n : Nat) (l : List Int) (d : Int), (partF n l d).2.length ≤ l.length
  | 0, _, _ => by simp [partF]
  | n + 1, [], _ => by simp [partF]
  | n + 1, x :: t, d => by
    have h0 := lessN_le x t
    have h1 := partF_len n (t.take (lessN x t)) (d + 1)
    have h2 := partF_len n (t.drop (lessN x t)) (d + 1)
    simp only [List.length_take, List.length_drop] at h1 h2
    unfold partF
    split
    · simp
    · split
      · simp; omega
      · simp; omega
theorem take_at_eq (l : List Int) (k : Nat) (h : k ≤ l.length) (hk : 1 ≤ k) : (l.take k).drop 1 = (l.drop 1).take (k - 1) := by
  rw [List.drop_take]
theorem any_drop_false (x : Int) (t : List Int) (n : Nat) (h : ∀ j (hj : j < t.length), n ≤ j → ¬ t[j] ≤ x) : (t.drop n).any (fun k => decide (k ≤ x)) = false := by
  rw [List.any_eq_false]
  intro y hy
  obtain ⟨j, hj, rfl⟩ := List.getElem_of_mem hy
  rw [List.getElem_drop]
  simp at hj
  have := h (n + j) (by omega) (by omega)
  simpa using this
theorem any_drop_true (x : Int) (t : List Int) (n j : Nat) (hj : j < t.length) (hn : n ≤ j) (h : t[j] ≤ x) : (t.drop n).any (fun k => decide (k ≤ x)) = true := by
  rw [List.any_eq_true]
  refine ⟨t[j], ?_, by simpa using h⟩
  rw [List.mem_drop_iff_getElem]
  exact ⟨j - n, by omega, by simp [show n + (j - n) = j from by omega]⟩

theorem partF_l (n : Nat) (l : List Int) (x : Int) (t : List Int) (d : Int) (hl : l = x :: t) (k : Nat) (hk : 1 ≤ k) (hln : lessN x t = k - 1) :
    partF (n + 1) l d = if (l.drop k).any (fun k => decide (k ≤ x)) then (false, []) else if (partF n ((l.take k).drop 1) (d + 1)).1 = false then (false, (partF n ((l.take k).drop 1) (d + 1)).2)
      else ((partF n (l.drop k) (d + 1)).1, (partF n ((l.take k).drop 1) (d + 1)).2 ++ [(x, d)] ++ (partF n (l.drop k) (d + 1)).2) := by
  subst hl
  obtain ⟨k, rfl⟩ : ∃ k', k = k' + 1 := ⟨k - 1, by omega⟩
  rw [partF, hln]
  simp

theorem lo_cut {B b o o2 n c : Nat} {A : Option Addr} {n' c' : Nat} (h : Lo B (.slice (some ⟨b, o, none⟩) n c)) (hA : ∀ ad, A = some ad → ad.block = b) : Lo B (.slice A n' c') := fun k hk => by
  cases A with
  | none => simp [Value.ownBlock] at hk
  | some ad =>
    have := hA ad rfl
    simp [Value.ownBlock] at hk
    subst hk
    exact h _ (by simp [Value.ownBlock, this])
theorem if_blk {p : Prop} [Decidable p] {b o o2 : Nat} {A : Option Addr} (h : (if p then some (⟨b, o, none⟩ : Addr) else some ⟨b, o2, none⟩) = A) : ∀ ad, A = some ad → ad.block = b := by
  intro ad e
  subst e
  split at h <;> (injection h with h; rw [← h])
def PaPost (B g : Nat) (st e : TypeId) (r : Bool × List IP) (acc : List IP) (w : World) (en : Ending) (w' : World) : Prop := en = .returned (.bool r.1) ∧ OB w' B g st e ePair (acc ++ r.2) ∧ KO g B w w'
def Pa1 (l : List Int) (x : Int) (w : World) (nv : Value) (wr : World) : Prop := ∃ k : Nat, 1 ≤ k ∧ k ≤ l.length ∧ nv = .int .i64 k ∧ (∀ j (h : j < l.length), 1 ≤ j → j < k → l[j] < x) ∧ Kp w wr
def Pa2 (l : List Int) (x : Int) (n : Nat) (w : World) (iv : Value) (wr : World) : Prop := ∃ k : Nat, k ≤ l.length - n ∧ iv = .int .i64 k ∧ (∀ j (h : j < l.length), n ≤ j → j < n + k → ¬ l[j] ≤ x) ∧ Kp w wr

set_option maxRecDepth 100000 in
set_option maxHeartbeats 4000000 in
theorem part_any (g B : Nat) (hg : B ≤ g) (n : Nat) : ∀ (l : List Int) (v : Value) (d : Int) (acc : List IP) (w : World), l.length ≤ n → n ≤ 100000 → 0 ≤ d → d + n ≤ 1000000 → acc.length + l.length ≤ 100000 →
    (0 < l.length → Lo B v) → RD w eInt v l → OB w B g 22 41 ePair acc → B ≤ w.heap.size →
    Calls Try.prog 39 #[v, .int .i64 d, .pointer (some ⟨g, 0, none⟩)] w (PaPost B g 22 41 (partF n l d) acc w) := by
  induction n with
  | zero =>
    intro l v d acc w h1 h2 h3 h4 h5 hv hr ho hB
    obtain rfl : l = [] := List.eq_nil_of_length_eq_zero (by omega)
    obtain ⟨A, c, rfl, hc, hm⟩ := hr.shape
    have HO := hide ho
    clear ho hr hv
    go_enter Try.func39, Try.ntmps39
    go_wp2
    go_ret
    obtain ⟨u, hb, hu, hn⟩ := HO.out
    exact ⟨rfl, by simpa [partF] using HO.out, KO.refl (hb.cell 0)⟩
  | succ n ih =>
    intro l v d acc w h1 h2 h3 h4 h5 hv hr ho hB
    have IH := hide ih
    have HO := hide ho
    have HR := hide hr
    have HV := hide hv
    have HBh := hide hB
    obtain ⟨u, hb, hu, hn⟩ := ho
    clear ih hr hv
    obtain ⟨A, c, rfl, hc, hm⟩ := HR.out.shape
    cases l with
    | nil =>
      clear hu
      go_enter Try.func39, Try.ntmps39
      go_wp2
      go_ret
      exact ⟨rfl, by simpa [partF] using HO.out, KO.refl (hb.cell 0)⟩
    | cons x t =>
      obtain ⟨l, hl⟩ : ∃ l, l = x :: t := ⟨_, rfl⟩
      rw [← hl] at HR HV hc h1 h5 ⊢
      have hlt : l.length = t.length + 1 := by rw [hl]; rfl
      have hl0 : l[0]'(by omega) = x := by simp [hl]
      obtain ⟨b, o, rfl, _, c0⟩ := HR.out.int (k := 0) (by omega)
      rw [hl0, Nat.add_zero] at c0
      have hle0 : ((l.length : Int) == 0) = false := by rw [beq_eq_false_iff_ne]; omega
      have HL := hide hl
      have HL0 : Hid (∀ h : 0 < l.length, l[0]'h = x) := hide (fun h => by simp [hl])
      have HLT := hide hlt
      have hpos : 0 < l.length := by omega
      clear hl hl0 hlt
      go_enter Try.func39, Try.ntmps39
      go_wp2
      go_loopw [7] (Pa1 l x w) (fun i _ => l.length - (intOf i).toNat)
      case atStart => exact ⟨1, by omega, by omega, rfl, fun j h a b => by omega, Kp.refl _⟩
      case round =>
        obtain ⟨k, hk1, hk2, rfl, hall, hkp⟩ := hrel
        have HALL := hide hall
        clear hall
        have c0' := hkp.cell c0
        have hgz : Hid (∀ n, Kp w (wr.drewN n)) := hide fun n => hkp.drewN
        by_cases hlk : k < l.length
        · have hd1 : decide (k < l.length) = true := by simp [hlk]
          obtain ⟨b', o', e1, _, c1⟩ := (HR.out.kp hkp).int hlk
          injection e1 with e1
          injection e1 with e2 e3
          subst e2 e3
          by_cases hx : l[k] < x
          · have HN : Hid (∀ j (h : j < l.length), 1 ≤ j → j < k + 1 → l[j] < x) := hide (fun j h a b => by
              rcases Nat.lt_or_ge j k with h9 | h9
              · exact HALL.out j h a h9
              · have : j = k := by omega
                subst this; exact hx)
            go_wp2_with fail
            go_quiet (fail)
            go_wp2
            go_roundw
            case rel => exact ⟨k + 1, by omega, by omega, by go_num, HN.out, (by (focus ((repeat (first | (with_reducible assumption) | (with_reducible exact Kp.refl _) | (with_reducible apply Kp.drew) | (with_reducible apply Kp.drewN) | ((with_reducible apply Kp.setR); (focus (first | (with_reducible assumption) | (simp; done) | (simp; omega)))) | (with_reducible apply Kp.alloc) | ((with_reducible apply Kp.call); (with_reducible assumption)) | ((with_reducible apply Kp.app); (with_reducible assumption)))); done)))⟩
            case measure => simp [intOf]; omega
          · have hln : lessN x t = k - 1 := lessN_is x t (k - 1) (by have := HLT.out; omega) (fun j h a => by
              have h9 := HALL.out (j + 1) (by have := HLT.out; omega) (by omega) (by omega)
              have h8 := HL.out
              subst h8; simpa using h9) (fun h => by
              have h8 := HL.out
              subst h8
              obtain ⟨k', rfl⟩ : ∃ k', k = k' + 1 := ⟨k - 1, by omega⟩
              simpa using hx)
            have hxd : decide (l[k] < x) = false := by simp; omega
            clear hx
            go_wp2_with fail
            go_quiet (fail)
            have hif : (if c = k then some (⟨b, o, none⟩ : Addr) else some ⟨b, o + k, none⟩) = some ⟨b, o + k, none⟩ := if_neg (by omega)
            have HR2 := hide (fun W (h : Kp w W) => (HR.out.kp h).dropS (A' := (some ⟨b, o + k, none⟩)) (k := k) hk2 rfl (by rw [show eInt.size = 1 from rfl, Nat.mul_one]; exact hif))
            have HPL := hide (partF_l n l x t d HL.out k hk1 hln)
            have b1 : (k : Int) ≤ (l.length : Int) := by omega
            have b2 : (k : Int) ≤ (c : Int) := by omega
            have b3 : (0 : Int) ≤ (k : Int) := by omega
            have b4 : ((l.length : Int) - (k : Int)).toNat = l.length - k := by omega
            have b5 : (((l.length - k : Nat)) : Int) ≤ 9223372036854775807 := by omega
            clear hln
            go_wp2
            go_loopw [33] (Pa2 l x k w) (fun i _ => l.length - k - (intOf i).toNat)
            case atStart => exact ⟨0, by omega, rfl, fun j h a b => by omega, by (focus ((repeat (first | (with_reducible assumption) | (with_reducible exact Kp.refl _) | (with_reducible apply Kp.drew) | (with_reducible apply Kp.drewN) | ((with_reducible apply Kp.setR); (focus (first | (with_reducible assumption) | (simp; done) | (simp; omega)))) | (with_reducible apply Kp.alloc) | ((with_reducible apply Kp.call); (with_reducible assumption)) | ((with_reducible apply Kp.app); (with_reducible assumption)))); done))⟩
            case round =>
              obtain ⟨j, hj, rfl, hall2, hkp2⟩ := hrel
              have HALL2 := hide hall2
              clear hall2
              have c9 := hkp2.cell c0
              by_cases hjl : j < l.length - k
              · obtain ⟨b', o', e1, _, c2⟩ := (HR2.out _ hkp2).int (k := j) (by simp; omega)
                injection e1 with e1
                injection e1 with e2 e3
                subst e2 e3
                have hgd : (l.drop k)[j]'(by simp; omega) = l[k + j]'(by omega) := by simp
                rw [hgd] at c2
                obtain ⟨y, hy⟩ : ∃ y, y = l[k + j]'(by omega) := ⟨_, rfl⟩
                rw [← hy] at c2
                have HY := hide hy
                clear hgd hy
                by_cases hx2 : y ≤ x
                · have hp : Hid (partF (n + 1) l d = (false, [])) := hide (by
                    rw [HPL.out, if_pos]
                    exact any_drop_true x l k (k + j) (by omega) (by omega) (by rw [← HY.out]; exact hx2))
                  clear hif
                  go_wp2
                  go_ret
                  exact ⟨by rw [hp.out]; rfl, by rw [hp.out, List.append_nil]; exact HO.out.kp hkp2, (KO.refl (hb.cell 0)).on hkp2⟩
                · have hxd2 : decide (y ≤ x) = false := by simp; omega
                  have HN2 : Hid (∀ i (h : i < l.length), k ≤ i → i < k + (j + 1) → ¬ l[i] ≤ x) := hide (fun i h a b => by
                    rcases Nat.lt_or_ge i (k + j) with h9 | h9
                    · exact HALL2.out i h a h9
                    · have : i = k + j := by omega
                      subst this
                      rw [← HY.out]; exact hx2)
                  clear hif
                  go_wp2
                  go_roundw
                  case rel => exact ⟨j + 1, by omega, by go_num, HN2.out, hkp2⟩
                  case measure => simp [intOf]; omega
              · have hA1 : (if c = 1 then some (⟨b, o, none⟩ : Addr) else some ⟨b, o + 1, none⟩) = some ⟨b, o + 1, none⟩ := if_neg (by omega)
                have hany : (l.drop k).any (fun k => decide (k ≤ x)) = false := any_drop_false x l k (fun i h a => HALL2.out i h a (by omega))
                have hpl := HPL.out
                rw [hany, if_neg (by decide)] at hpl
                have hB1 := if_blk hA1
                have hl1 : ((l.take k).drop 1).length = k - 1 := by simp; omega
                have hl2 : (l.drop k).length = l.length - k := by simp
                have hq1 := partF_len n ((l.take k).drop 1) (d + 1)
                have hwr : IntKind.i64.wrap (d + 1) = d + 1 := IntWalk.i64_in _ (by omega)
                have HC1 := hide (fun acc W ha (h : RD W eInt (.slice (some ⟨b, o, none⟩) l.length c) l) ho hb => IH.out ((l.take k).drop 1) (.slice (some ⟨b, o + 1, none⟩) (k - 1) (c - 1)) (d + 1) acc W (by omega) (by omega) (by omega) (by omega) ha (fun h0 => lo_cut (o2 := o) (HV.out hpos) hB1) (RD.cut h (by omega) (by omega) (some ⟨b, o + 1, none⟩) (fun e => by cases e <;> (split at hA1 <;> cases hA1)) (fun b2 o2 e hc2 => by injection e with e; injection e with e2 e3; subst e2 e3; rw [if_neg (by omega)] at hA1; rw [show 1 * eInt.size = 1 from rfl]; try exact hA1.symm)) ho hb)
                have hB2 := if_blk hif
                have HC2 := hide (fun acc W ha (h : RD W eInt (.slice (some ⟨b, o, none⟩) l.length c) l) ho hb => IH.out (l.drop k) (.slice (some ⟨b, o + k, none⟩) (l.length - k) (c - k)) (d + 1) acc W (by omega) (by omega) (by omega) (by omega) ha (fun h0 => lo_cut (o2 := o) (HV.out hpos) hB2) (RD.dropS h hk2 rfl (by rw [show eInt.size = 1 from rfl, Nat.mul_one]; exact hif)) ho hb)
                obtain ⟨P1, hP1⟩ : ∃ P, P = partF n ((l.take k).drop 1) (d + 1) := ⟨_, rfl⟩
                obtain ⟨P2, hP2⟩ : ∃ P, P = partF n (l.drop k) (d + 1) := ⟨_, rfl⟩
                rw [← hP1] at HC1 hpl hq1
                rw [← hP2] at HC2 hpl
                obtain ⟨r1, a1⟩ := P1
                obtain ⟨r2, a2⟩ := P2
                simp only at HC1 HC2 hpl hq1
                have b6 : (1 : Int) ≤ (k : Int) := by omega
                have b7 : ((k : Int) - 1).toNat = k - 1 := by omega
                have HA9 : Hid (acc.length + ((l.take k).drop 1).length ≤ 100000) := hide (by rw [hl1]; omega)
                have HO4 := hide (HO.out.kp hkp2)
                have HR4 := hide (HR.out.kp hkp2)
                have HZ4 := hide hkp2.size
                have HQ := hide hq1
                have HL1 := hide hl1
                have HL2 := hide hl2
                clear hP1 hP2 hB1 hB2 hany hq1 hl1 hl2
                cases r1 with
                | false =>
                  rw [if_pos rfl] at hpl
                  have HPF := hide hpl
                  clear hpl
                  go_wp2_with fail
                  with_reducible refine (HC1.out acc _ HA9.out HR4.out HO4.out (Nat.le_trans HBh.out HZ4.out)).mono ?_
                  rintro e w5 ⟨rfl, ho5, hk5⟩
                  have HO5 := hide ho5
                  clear ho5
                  go_wp2
                  go_ret
                  exact ⟨by rw [HPF.out]; rfl, by rw [HPF.out]; exact HO5.out, ((KO.refl (hb.cell 0)).on hkp2).trans hk5⟩
                | true =>
                  rw [if_neg (by simp)] at hpl
                  have HPF := hide hpl
                  clear hpl
                  go_wp2_with fail
                  with_reducible refine (HC1.out acc _ HA9.out HR4.out HO4.out (Nat.le_trans HBh.out HZ4.out)).mono ?_
                  rintro e w5 ⟨rfl, ho5, hk5⟩
                  have HR5 := hide (HR4.out.ko HO4.out hk5 HV.out hg)
                  have HZ5 : Hid (w.heap.size ≤ w5.heap.size) := hide (Nat.le_trans HZ4.out hk5.size)
                  have HK5 := hide (((KO.refl (hb.cell 0)).on hkp2).trans hk5)
                  have HO5 := hide ho5
                  clear ho5 hk5
                  obtain ⟨u5, hb5, hu5, hn5⟩ := HO5.out
                  obtain ⟨b', o', e1, _, d0⟩ := HR5.out.int (k := 0) hpos
                  injection e1 with e1
                  injection e1 with e2 e3
                  subst e2 e3
                  rw [HL0.out hpos, Nat.add_zero] at d0
                  obtain ⟨acc5, hacc⟩ : ∃ a, a = acc ++ a1 := ⟨_, rfl⟩
                  have hal : acc5.length ≤ acc.length + (k - 1) := by have := HQ.out; rw [HL1.out] at this; rw [hacc, List.length_append]; omega
                  have HACC := hide hacc
                  rw [← hacc] at hu5
                  clear hacc
                  have HM1 : Hid ((acc5.length + [((x, d) : IP)].length) * 16 ≤ 140737488355328) := hide (by simp; omega)
                  have HM2 : Hid (acc5.length + [((x, d) : IP)].length ≤ maxLen) := hide (by simp [maxLen]; omega)
                  have hblk : u5.ownBlock ≠ some b := fun e => by have := HV.out hpos b rfl; have := (hu5.lt b e).1; omega
                  have HB5 : Hid (B ≤ w5.heap.size) := hide (Nat.le_trans HBh.out HZ5.out)
                  have HAL : Hid ((acc5 ++ [((x, d) : IP)]).length + n ≤ 100000 ∨ True) := hide (.inr trivial)
                  have KS : Hid (∀ W', KV u5 w5 W' → (W'.cell? ⟨b, o, none⟩ = some (.int .i64 x) ∧ W'.cell? ⟨g, 0, none⟩ = some u5 ∧ W'.frozen? ⟨g, 0, none⟩ = false ∧ KV u5 w5 W')) := hide fun W' h => ⟨h.cell hblk d0, h.cell hn5 (hb5.cell 0), (h.frozen hb5.lt hn5).trans (hb5.frozen 0), h⟩
                  have g0 := hb5.cell 0
                  have f0 := hb5.frozen 0
                  have L1 : ∀ n o, ((w5.drewN n).alloc o).cell? ⟨g, 0, none⟩ = some u5 := fun n o => ((Kp.refl w5).drewN.alloc).cell g0
                  have L2 : ∀ n o', ((w5.drewN n).alloc o').cell? ⟨b, o, none⟩ = some (.int .i64 x) := fun n o' => ((Kp.refl w5).drewN.alloc).cell d0
                  have L3 : ∀ o, (w5.drew.alloc o).cell? ⟨g, 0, none⟩ = some u5 := fun o => ((Kp.refl w5).drew.alloc).cell g0
                  have L4 : ∀ o', (w5.drew.alloc o').cell? ⟨b, o, none⟩ = some (.int .i64 x) := fun o' => ((Kp.refl w5).drew.alloc).cell d0
                  have L5 : ∀ o, ((w5.alloc o).drew).cell? ⟨g, 0, none⟩ = some u5 := fun o => ((Kp.refl w5).alloc.drew).cell g0
                  have L6 : ∀ o', ((w5.alloc o').drew).cell? ⟨b, o, none⟩ = some (.int .i64 x) := fun o' => ((Kp.refl w5).alloc.drew).cell d0
                  have L7 : ∀ o, (w5.alloc o).cell? ⟨g, 0, none⟩ = some u5 := fun o => ((Kp.refl w5).alloc).cell g0
                  have L8 : ∀ o', (w5.alloc o').cell? ⟨b, o, none⟩ = some (.int .i64 x) := fun o' => ((Kp.refl w5).alloc).cell d0
                  clear c0 c0' c9
                  go_wp2_with fail
                  go_region_law (((with_reducible refine step_app (l := acc5) (m := [((x, d) : IP)]) row_spot u5 ?_ (.tmp 54) (.tmp 60) ?_ ?_ ?_ ?_ HM1.out HM2.out (Nat.le_trans HB5.out (KV.size (w := w5) (v := u5) ?_)) ?_); (with_reducible rfl); (with_reducible rfl); rfl; (focus ((repeat (first | (with_reducible assumption) | (with_reducible apply OW.alloc) | (with_reducible apply OW.drew) | (with_reducible apply OW.drewN) | ((with_reducible apply OW.setCellR); (with_reducible assumption)) | ((with_reducible apply OW.belowR); (with_reducible assumption)) | ((with_reducible apply OW.keptR); (with_reducible assumption); (with_reducible assumption)))); done)); (show RD _ _ (.slice (some ⟨_, 0, none⟩) 1 1) _; (focus ((repeat (first | (with_reducible assumption) | exact RD.new1 _ rfl | (refine RD.new1e _ ?_ rfl; simp; done) | (with_reducible apply RD.alloc) | (with_reducible apply RD.drew) | (with_reducible apply RD.drewN) | ((with_reducible apply RD.belowR); (with_reducible assumption)))); done))); (go_split_ands; (focus ((repeat (first | (with_reducible assumption) | (with_reducible exact KV.refl _ _) | (with_reducible apply KV.drew) | (with_reducible apply KV.drewN) | (with_reducible apply KV.alloc) | ((with_reducible apply KV.call); (with_reducible assumption)) | ((with_reducible apply KV.app); (with_reducible assumption)))); done))); intro v3 w3 ho3 hg3 hat3; obtain ⟨_, sc3, sf3, _⟩ := KS.out w3 (by go_split_ands; (focus ((repeat (first | (with_reducible assumption) | (with_reducible exact KV.refl _ _) | (with_reducible apply KV.drew) | (with_reducible apply KV.drewN) | (with_reducible apply KV.alloc) | ((with_reducible apply KV.call); (with_reducible assumption)) | ((with_reducible apply KV.app); (with_reducible assumption)))); done))); obtain ⟨A3, N3, c3, rfl⟩ := ho3.rd.slice))
                  all_goals
                    have hat9 := hat3.imp id (fun e => show Hi w5.heap.size (Value.slice A3 N3 c3) from fun k hk => by rw [e] at hk; injection hk with hk; subst hk; simp <;> omega)
                    obtain ⟨ho4, hk4⟩ := ob_app hb5 hu5 hn5 (show KV u5 w5 w3 by (focus ((repeat (first | (with_reducible assumption) | (with_reducible exact KV.refl _ _) | (with_reducible apply KV.drew) | (with_reducible apply KV.drewN) | (with_reducible apply KV.alloc) | ((with_reducible apply KV.call); (with_reducible assumption)) | ((with_reducible apply KV.app); (with_reducible assumption)))); done))) ho3 hat9
                    clear hat9 hat3 hg3 ho3 sc3 sf3 L1 L2 L3 L4 L5 L6 L7 L8 g0 f0
                    have HR6 := hide (HR5.out.ko HO5.out hk4 HV.out hg)
                    have HZ6 := hide hk4.size
                    have HO6 := hide ho4
                    have HK6 := hide (HK5.out.trans hk4)
                    clear ho4 hk4
                    go_wp2_with fail
                    with_reducible refine (HC2.out (acc5 ++ [((x, d) : IP)]) _ (by have := HQ.out; rw [HL1.out] at this; simp only [List.length_append, List.length_cons, List.length_nil]; rw [HL2.out]; omega) HR6.out HO6.out (Nat.le_trans HB5.out HZ6.out)).mono ?_
                    rintro e w7 ⟨rfl, ho7, hk7⟩
                    have HO7 := hide ho7
                    have HK7 := hide (HK6.out.trans hk7)
                    clear ho7 hk7
                    go_wp2
                    go_ret
                    exact ⟨by rw [HPF.out]; rfl, by rw [HPF.out]; have h := HO7.out; rw [HACC.out] at h; simpa [List.append_assoc] using h, HK7.out⟩
        · have hd1 : decide (k < l.length) = false := by simp; omega
          have hln : lessN x t = k - 1 := lessN_is x t (k - 1) (by have := HLT.out; omega) (fun j h a => by
            have h9 := HALL.out (j + 1) (by have := HLT.out; omega) (by omega) (by omega)
            have h8 := HL.out
            subst h8; simpa using h9) (fun h => by have := HLT.out; omega)
          go_wp2_with fail
          go_quiet (fail)
          obtain ⟨A2, hif⟩ : ∃ A2, (if c = k then some (⟨b, o, none⟩ : Addr) else some ⟨b, o + k, none⟩) = A2 := ⟨_, rfl⟩
          have HR2 := hide (fun W (h : Kp w W) => (HR.out.kp h).dropS (A' := A2) (k := k) hk2 rfl (by rw [show eInt.size = 1 from rfl, Nat.mul_one]; exact hif))
          have HPL := hide (partF_l n l x t d HL.out k hk1 hln)
          have b1 : (k : Int) ≤ (l.length : Int) := by omega
          have b2 : (k : Int) ≤ (c : Int) := by omega
          have b3 : (0 : Int) ≤ (k : Int) := by omega
          have b4 : ((l.length : Int) - (k : Int)).toNat = l.length - k := by omega
          have b5 : (((l.length - k : Nat)) : Int) ≤ 9223372036854775807 := by omega
          clear hln
          go_wp2
          go_loopw [33] (Pa2 l x k w) (fun i _ => l.length - k - (intOf i).toNat)
          case atStart => exact ⟨0, by omega, rfl, fun j h a b => by omega, by (focus ((repeat (first | (with_reducible assumption) | (with_reducible exact Kp.refl _) | (with_reducible apply Kp.drew) | (with_reducible apply Kp.drewN) | ((with_reducible apply Kp.setR); (focus (first | (with_reducible assumption) | (simp; done) | (simp; omega)))) | (with_reducible apply Kp.alloc) | ((with_reducible apply Kp.call); (with_reducible assumption)) | ((with_reducible apply Kp.app); (with_reducible assumption)))); done))⟩
          case round =>
            obtain ⟨j, hj, rfl, hall2, hkp2⟩ := hrel
            have HALL2 := hide hall2
            clear hall2
            have c9 := hkp2.cell c0
            by_cases hjl : j < l.length - k
            · exfalso; omega
            · obtain ⟨A1, hA1⟩ : ∃ A1, (if c = 1 then some (⟨b, o, none⟩ : Addr) else some ⟨b, o + 1, none⟩) = A1 := ⟨_, rfl⟩
              have hany : (l.drop k).any (fun k => decide (k ≤ x)) = false := any_drop_false x l k (fun i h a => HALL2.out i h a (by omega))
              have hpl := HPL.out
              rw [hany, if_neg (by decide)] at hpl
              have hB1 := if_blk hA1
              have hl1 : ((l.take k).drop 1).length = k - 1 := by simp; omega
              have hl2 : (l.drop k).length = l.length - k := by simp
              have hq1 := partF_len n ((l.take k).drop 1) (d + 1)
              have hwr : IntKind.i64.wrap (d + 1) = d + 1 := IntWalk.i64_in _ (by omega)
              have HC1 := hide (fun acc W ha (h : RD W eInt (.slice (some ⟨b, o, none⟩) l.length c) l) ho hb => IH.out ((l.take k).drop 1) (.slice A1 (k - 1) (c - 1)) (d + 1) acc W (by omega) (by omega) (by omega) (by omega) ha (fun h0 => lo_cut (o2 := o) (HV.out hpos) hB1) (RD.cut h (by omega) (by omega) A1 (fun e => by cases e <;> (split at hA1 <;> cases hA1)) (fun b2 o2 e hc2 => by injection e with e; injection e with e2 e3; subst e2 e3; rw [if_neg (by omega)] at hA1; rw [show 1 * eInt.size = 1 from rfl]; try exact hA1.symm)) ho hb)
              have hB2 := if_blk hif
              have HC2 := hide (fun acc W ha (h : RD W eInt (.slice (some ⟨b, o, none⟩) l.length c) l) ho hb => IH.out (l.drop k) (.slice A2 (l.length - k) (c - k)) (d + 1) acc W (by omega) (by omega) (by omega) (by omega) ha (fun h0 => lo_cut (o2 := o) (HV.out hpos) hB2) (RD.dropS h hk2 rfl (by rw [show eInt.size = 1 from rfl, Nat.mul_one]; exact hif)) ho hb)
              obtain ⟨P1, hP1⟩ : ∃ P, P = partF n ((l.take k).drop 1) (d + 1) := ⟨_, rfl⟩
              obtain ⟨P2, hP2⟩ : ∃ P, P = partF n (l.drop k) (d + 1) := ⟨_, rfl⟩
              rw [← hP1] at HC1 hpl hq1
              rw [← hP2] at HC2 hpl
              obtain ⟨r1, a1⟩ := P1
              obtain ⟨r2, a2⟩ := P2
              simp only at HC1 HC2 hpl hq1
              have b6 : (1 : Int) ≤ (k : Int) := by omega
              have b7 : ((k : Int) - 1).toNat = k - 1 := by omega
              have HA9 : Hid (acc.length + ((l.take k).drop 1).length ≤ 100000) := hide (by rw [hl1]; omega)
              have HO4 := hide (HO.out.kp hkp2)
              have HR4 := hide (HR.out.kp hkp2)
              have HZ4 := hide hkp2.size
              have HQ := hide hq1
              have HL1 := hide hl1
              have HL2 := hide hl2
              clear hP1 hP2 hB1 hB2 hany hq1 hl1 hl2
              cases r1 with
              | false =>
                rw [if_pos rfl] at hpl
                have HPF := hide hpl
                clear hpl
                go_wp2_with fail
                with_reducible refine (HC1.out acc _ HA9.out HR4.out HO4.out (Nat.le_trans HBh.out HZ4.out)).mono ?_
                rintro e w5 ⟨rfl, ho5, hk5⟩
                have HO5 := hide ho5
                clear ho5
                go_wp2
                go_ret
                exact ⟨by rw [HPF.out]; rfl, by rw [HPF.out]; exact HO5.out, ((KO.refl (hb.cell 0)).on hkp2).trans hk5⟩
              | true =>
                rw [if_neg (by simp)] at hpl
                have HPF := hide hpl
                clear hpl
                go_wp2_with fail
                with_reducible refine (HC1.out acc _ HA9.out HR4.out HO4.out (Nat.le_trans HBh.out HZ4.out)).mono ?_
                rintro e w5 ⟨rfl, ho5, hk5⟩
                have HR5 := hide (HR4.out.ko HO4.out hk5 HV.out hg)
                have HZ5 : Hid (w.heap.size ≤ w5.heap.size) := hide (Nat.le_trans HZ4.out hk5.size)
                have HK5 := hide (((KO.refl (hb.cell 0)).on hkp2).trans hk5)
                have HO5 := hide ho5
                clear ho5 hk5
                obtain ⟨u5, hb5, hu5, hn5⟩ := HO5.out
                obtain ⟨b', o', e1, _, d0⟩ := HR5.out.int (k := 0) hpos
                injection e1 with e1
                injection e1 with e2 e3
                subst e2 e3
                rw [HL0.out hpos, Nat.add_zero] at d0
                obtain ⟨acc5, hacc⟩ : ∃ a, a = acc ++ a1 := ⟨_, rfl⟩
                have hal : acc5.length ≤ acc.length + (k - 1) := by have := HQ.out; rw [HL1.out] at this; rw [hacc, List.length_append]; omega
                have HACC := hide hacc
                rw [← hacc] at hu5
                clear hacc
                have HM1 : Hid ((acc5.length + [((x, d) : IP)].length) * 16 ≤ 140737488355328) := hide (by simp; omega)
                have HM2 : Hid (acc5.length + [((x, d) : IP)].length ≤ maxLen) := hide (by simp [maxLen]; omega)
                have hblk : u5.ownBlock ≠ some b := fun e => by have := HV.out hpos b rfl; have := (hu5.lt b e).1; omega
                have HB5 : Hid (B ≤ w5.heap.size) := hide (Nat.le_trans HBh.out HZ5.out)
                have HAL : Hid ((acc5 ++ [((x, d) : IP)]).length + n ≤ 100000 ∨ True) := hide (.inr trivial)
                have KS : Hid (∀ W', KV u5 w5 W' → (W'.cell? ⟨b, o, none⟩ = some (.int .i64 x) ∧ W'.cell? ⟨g, 0, none⟩ = some u5 ∧ W'.frozen? ⟨g, 0, none⟩ = false ∧ KV u5 w5 W')) := hide fun W' h => ⟨h.cell hblk d0, h.cell hn5 (hb5.cell 0), (h.frozen hb5.lt hn5).trans (hb5.frozen 0), h⟩
                have g0 := hb5.cell 0
                have f0 := hb5.frozen 0
                have L1 : ∀ n o, ((w5.drewN n).alloc o).cell? ⟨g, 0, none⟩ = some u5 := fun n o => ((Kp.refl w5).drewN.alloc).cell g0
                have L2 : ∀ n o', ((w5.drewN n).alloc o').cell? ⟨b, o, none⟩ = some (.int .i64 x) := fun n o' => ((Kp.refl w5).drewN.alloc).cell d0
                have L3 : ∀ o, (w5.drew.alloc o).cell? ⟨g, 0, none⟩ = some u5 := fun o => ((Kp.refl w5).drew.alloc).cell g0
                have L4 : ∀ o', (w5.drew.alloc o').cell? ⟨b, o, none⟩ = some (.int .i64 x) := fun o' => ((Kp.refl w5).drew.alloc).cell d0
                have L5 : ∀ o, ((w5.alloc o).drew).cell? ⟨g, 0, none⟩ = some u5 := fun o => ((Kp.refl w5).alloc.drew).cell g0
                have L6 : ∀ o', ((w5.alloc o').drew).cell? ⟨b, o, none⟩ = some (.int .i64 x) := fun o' => ((Kp.refl w5).alloc.drew).cell d0
                have L7 : ∀ o, (w5.alloc o).cell? ⟨g, 0, none⟩ = some u5 := fun o => ((Kp.refl w5).alloc).cell g0
                have L8 : ∀ o', (w5.alloc o').cell? ⟨b, o, none⟩ = some (.int .i64 x) := fun o' => ((Kp.refl w5).alloc).cell d0
                clear c0 c0' c9
                go_wp2_with fail
                go_region_law (((with_reducible refine step_app (l := acc5) (m := [((x, d) : IP)]) row_spot u5 ?_ (.tmp 54) (.tmp 60) ?_ ?_ ?_ ?_ HM1.out HM2.out (Nat.le_trans HB5.out (KV.size (w := w5) (v := u5) ?_)) ?_); (with_reducible rfl); (with_reducible rfl); rfl; (focus ((repeat (first | (with_reducible assumption) | (with_reducible apply OW.alloc) | (with_reducible apply OW.drew) | (with_reducible apply OW.drewN) | ((with_reducible apply OW.setCellR); (with_reducible assumption)) | ((with_reducible apply OW.belowR); (with_reducible assumption)) | ((with_reducible apply OW.keptR); (with_reducible assumption); (with_reducible assumption)))); done)); (show RD _ _ (.slice (some ⟨_, 0, none⟩) 1 1) _; (focus ((repeat (first | (with_reducible assumption) | exact RD.new1 _ rfl | (refine RD.new1e _ ?_ rfl; simp; done) | (with_reducible apply RD.alloc) | (with_reducible apply RD.drew) | (with_reducible apply RD.drewN) | ((with_reducible apply RD.belowR); (with_reducible assumption)))); done))); (go_split_ands; (focus ((repeat (first | (with_reducible assumption) | (with_reducible exact KV.refl _ _) | (with_reducible apply KV.drew) | (with_reducible apply KV.drewN) | (with_reducible apply KV.alloc) | ((with_reducible apply KV.call); (with_reducible assumption)) | ((with_reducible apply KV.app); (with_reducible assumption)))); done))); intro v3 w3 ho3 hg3 hat3; obtain ⟨_, sc3, sf3, _⟩ := KS.out w3 (by go_split_ands; (focus ((repeat (first | (with_reducible assumption) | (with_reducible exact KV.refl _ _) | (with_reducible apply KV.drew) | (with_reducible apply KV.drewN) | (with_reducible apply KV.alloc) | ((with_reducible apply KV.call); (with_reducible assumption)) | ((with_reducible apply KV.app); (with_reducible assumption)))); done))); obtain ⟨A3, N3, c3, rfl⟩ := ho3.rd.slice))
                all_goals
                  have hat9 := hat3.imp id (fun e => show Hi w5.heap.size (Value.slice A3 N3 c3) from fun k hk => by rw [e] at hk; injection hk with hk; subst hk; simp <;> omega)
                  obtain ⟨ho4, hk4⟩ := ob_app hb5 hu5 hn5 (show KV u5 w5 w3 by (focus ((repeat (first | (with_reducible assumption) | (with_reducible exact KV.refl _ _) | (with_reducible apply KV.drew) | (with_reducible apply KV.drewN) | (with_reducible apply KV.alloc) | ((with_reducible apply KV.call); (with_reducible assumption)) | ((with_reducible apply KV.app); (with_reducible assumption)))); done))) ho3 hat9
                  clear hat9 hat3 hg3 ho3 sc3 sf3 L1 L2 L3 L4 L5 L6 L7 L8 g0 f0
                  have HR6 := hide (HR5.out.ko HO5.out hk4 HV.out hg)
                  have HZ6 := hide hk4.size
                  have HO6 := hide ho4
                  have HK6 := hide (HK5.out.trans hk4)
                  clear ho4 hk4
                  go_wp2_with fail
                  with_reducible refine (HC2.out (acc5 ++ [((x, d) : IP)]) _ (by have := HQ.out; rw [HL1.out] at this; simp only [List.length_append, List.length_cons, List.length_nil]; rw [HL2.out]; omega) HR6.out HO6.out (Nat.le_trans HB5.out HZ6.out)).mono ?_
                  rintro e w7 ⟨rfl, ho7, hk7⟩
                  have HO7 := hide ho7
                  have HK7 := hide (HK6.out.trans hk7)
                  clear ho7 hk7
                  go_wp2
                  go_ret
                  exact ⟨by rw [HPF.out]; rfl, by rw [HPF.out]; have h := HO7.out; rw [HACC.out] at h; simpa [List.append_assoc] using h, HK7.out⟩
end Go.Proofs.Ytcpponjknmkfaaa
