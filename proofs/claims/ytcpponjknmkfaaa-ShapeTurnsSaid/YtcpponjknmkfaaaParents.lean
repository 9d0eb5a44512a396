/-
  shape.top, shape.parents, shape.read, shape.Parents: what they answer. Conditions: the list reads as l (RD).
-/
import Derived.Test.YtcpponjknmkfaaaPTree
import Derived.Test.YtcpponjknmkfaaaKg
import Derived.Test.YtcpponjknmkfaaaChk
namespace Go.Proofs.Ytcpponjknmkfaaa
open Go.ChangeShapes Go.WideShapes Go.ChangeAt Go.RowKit
set_option linter.unusedVariables false
set_option linter.unusedSimpArgs false

/-- The place of the first least depth of so many spots, and whether it is alone. -/
def topF (l : List IP) : Nat → Nat → Nat → Bool → Nat × Bool
  | 0, _, a, al => (a, al)
  | n + 1, k, a, al => if gv l k < gv l a then topF l n (k + 1) k true else if gv l k = gv l a then topF l n (k + 1) a false else topF l n (k + 1) a al
def topS (l : List IP) (lo hi : Nat) : Nat × Bool := topF l (hi - (lo + 1)) (lo + 1) lo true
theorem topF_in (l : List IP) (lo hi : Nat) : ∀ n k a al, lo ≤ a → a < hi → k + n ≤ hi → lo ≤ k → lo ≤ (topF l n k a al).1 ∧ (topF l n k a al).1 < hi
  | 0, k, a, al, h1, h2, _, _ => ⟨h1, h2⟩
  | n + 1, k, a, al, h1, h2, h3, h4 => by
    unfold topF
    split
    · exact topF_in l lo hi n (k + 1) k true h4 (by omega) (by omega) (by omega)
    · split
      · exact topF_in l lo hi n (k + 1) a false h1 h2 (by omega) (by omega)
      · exact topF_in l lo hi n (k + 1) a al h1 h2 (by omega) (by omega)
theorem topS_in (l : List IP) (lo hi : Nat) (h : lo < hi) : lo ≤ (topS l lo hi).1 ∧ (topS l lo hi).1 < hi := topF_in l lo hi _ _ _ _ (Nat.le_refl _) h (by omega) (by omega)

def TopRel (l : List IP) (lo hi : Nat) (w : World) (av alv iv : Value) (wr : World) : Prop :=
  ∃ (k a : Nat) (al : Bool), k ≤ hi ∧ a < hi ∧ iv = .int .i64 k ∧ av = .int .i64 a ∧ alv = .bool al ∧ topF l (hi - k) k a al = topS l lo hi ∧ ∃ n, wr = w.drewN n

set_option maxHeartbeats 1000000 in
theorem top_any (l : List IP) (v : Value) (lo hi : Nat) (w : World) (hr : RD w ePair v l) (h1 : lo < hi) (h2 : hi ≤ l.length) :
    Calls Try.prog 49 #[v, .int .i64 (lo : Int), .int .i64 (hi : Int)] w (Drew (.tuple #[.int .i64 ((topS l lo hi).1 : Nat), .bool (topS l lo hi).2]) w) := by
  obtain ⟨A, c, rfl, hc, hm⟩ := hr.shape
  have HR := hide hr
  clear hr
  have b1 : (lo : Int) + 1 ≤ (hi : Int) := by omega
  have b2 : (hi : Int) ≤ 9223372036854775807 := by omega
  go_enter Try.func49, Try.ntmps49
  go_wp2
  go_loopw [8, 9, 10] (TopRel l lo hi w) (fun _ _ i _ => hi - (intOf i).toNat)
  case atStart => exact ⟨lo + 1, lo, true, by omega, by omega, by go_num, rfl, rfl, rfl, 0, rfl⟩
  case round =>
    obtain ⟨k, a, al, hk, ha, rfl, rfl, rfl, htop, n, rfl⟩ := hrel
    have HT := hide htop
    clear htop
    by_cases hlt : k < hi
    · obtain ⟨b, o, rfl, hb, c0, c1⟩ := (HR.out).pair (k := k) (by omega)
      obtain ⟨b', o', e1, _, d0, d1⟩ := (HR.out).pair (k := a) (by omega)
      injection e1 with e1
      injection e1 with e2 e3
      subst e2 e3
      have hst : Hid (topF l (hi - k) k a al = if gv l k < gv l a then topF l (hi - (k + 1)) (k + 1) k true else if gv l k = gv l a then topF l (hi - (k + 1)) (k + 1) a false else topF l (hi - (k + 1)) (k + 1) a al) :=
        hide (by rw [show hi - k = (hi - (k + 1)) + 1 from by omega, topF])
      have hg1 := gv_eq l k (by omega)
      have hg2 := gv_eq l a (by omega)
      have b3 : (k : Int) < (l.length : Int) := by omega
      have b4 : (a : Int) < (l.length : Int) := by omega
      have b5 : (0 : Int) ≤ (k : Int) := by omega
      have b6 : (0 : Int) ≤ (a : Int) := by omega
      rcases Int.lt_trichotomy l[k].2 l[a].2 with hd | hd | hd
      · have hn : Hid (topF l (hi - (k + 1)) (k + 1) k true = topS l lo hi) := hide (by rw [← HT.out, hst.out, if_pos (by rw [hg1, hg2]; exact hd)])
        clear hg1 hg2
        go_wp2_with fail
        go_quiet (fail)
        go_wp2
        go_roundw
        case rel => exact ⟨k + 1, k, true, by omega, by omega, by go_num, rfl, rfl, hn.out, _, rfl⟩
        case measure => simp [intOf]; omega
      · have hn : Hid (topF l (hi - (k + 1)) (k + 1) a false = topS l lo hi) := hide (by rw [← HT.out, hst.out, if_neg (by rw [hg1, hg2]; omega), if_pos (by rw [hg1, hg2]; exact hd)])
        have hq1 : decide (l[k].2 < l[a].2) = false := by simp; omega
        have hq2 : (l[k].2 == l[a].2) = true := by simp; omega
        clear hg1 hg2 hd
        go_wp2_with fail
        go_quiet (fail)
        go_wp2_with fail
        go_quiet (fail)
        go_wp2
        go_roundw
        case rel => exact ⟨k + 1, a, false, by omega, by omega, by go_num, rfl, rfl, hn.out, _, rfl⟩
        case measure => simp [intOf]; omega
      · have hn : Hid (topF l (hi - (k + 1)) (k + 1) a al = topS l lo hi) := hide (by rw [← HT.out, hst.out, if_neg (by rw [hg1, hg2]; omega), if_neg (by rw [hg1, hg2]; omega)])
        have hq1 : decide (l[k].2 < l[a].2) = false := by simp; omega
        have hq2 : (l[k].2 == l[a].2) = false := by simp; omega
        clear hg1 hg2 hd
        go_wp2_with fail
        go_quiet (fail)
        go_wp2_with fail
        go_quiet (fail)
        go_wp2
        go_roundw
        case rel => exact ⟨k + 1, a, al, by omega, by omega, by go_num, rfl, rfl, hn.out, _, rfl⟩
        case measure => simp [intOf]; omega
    · have hn : Hid (((a : Nat), al) = topS l lo hi) := hide (by rw [← HT.out, show hi - k = 0 from by omega]; rfl)
      go_wp2
      go_ret2
      exact ⟨by rw [← hn.out]; rfl, _, rfl⟩

/-- The tree of places of so many spots, from a depth on. -/
def ptR (l : List IP) (lo hi : Nat) (d : Int) : Option PT :=
  if h : lo < hi then
    have := topS_in l lo hi h
    if (topS l lo hi).2 = true ∧ gv l (topS l lo hi).1 = d then
      match ptR l lo (topS l lo hi).1 (d + 1), ptR l ((topS l lo hi).1 + 1) hi (d + 1) with
      | some a, some b => some (.node (topS l lo hi).1 a b)
      | _, _ => none
    else none
  else some .nil
termination_by hi - lo
theorem ptR_nil (l : List IP) (lo hi : Nat) (d : Int) (h : ¬ lo < hi) : ptR l lo hi d = some .nil := by rw [ptR, dif_neg h]
theorem ptR_node (l : List IP) (lo hi : Nat) (d : Int) (h : lo < hi) (at_ : Nat) (ht : topS l lo hi = (at_, true)) (hd : gv l at_ = d) :
    ptR l lo hi d = match ptR l lo at_ (d + 1), ptR l (at_ + 1) hi (d + 1) with
      | some a, some b => some (.node at_ a b)
      | _, _ => none := by
  rw [ptR, dif_pos h]
  simp only [ht, hd, and_self, if_true]
theorem ptR_none (l : List IP) (lo hi : Nat) (d : Int) (h : lo < hi) (hn : ¬ ((topS l lo hi).2 = true ∧ gv l (topS l lo hi).1 = d)) : ptR l lo hi d = none := by
  rw [ptR, dif_pos h]
  simp only [if_neg hn]
theorem ptR_size (l : List IP) (lo hi : Nat) (d : Int) (t : PT) (hlh : lo ≤ hi) (h : ptR l lo hi d = some t) : t.size = hi - lo := by
  by_cases h0 : lo < hi
  · have ht := topS_in l lo hi h0
    by_cases h1 : (topS l lo hi).2 = true ∧ gv l (topS l lo hi).1 = d
    · rw [ptR_node l lo hi d h0 (topS l lo hi).1 (by rw [← h1.1]) h1.2] at h
      cases ha : ptR l lo (topS l lo hi).1 (d + 1) with
      | none => rw [ha] at h; simp at h
      | some a =>
        cases hb : ptR l ((topS l lo hi).1 + 1) hi (d + 1) with
        | none => rw [ha, hb] at h; simp at h
        | some b =>
          rw [ha, hb] at h
          simp only [Option.some.injEq] at h
          subst h
          have h2 := ptR_size l lo (topS l lo hi).1 (d + 1) a ht.1 ha
          have h3 := ptR_size l ((topS l lo hi).1 + 1) hi (d + 1) b (by omega) hb
          simp only [PT.size]
          omega
    · rw [ptR_none l lo hi d h0 h1] at h
      cases h
  · rw [ptR_nil l lo hi d h0] at h
    injection h with h
    subst h
    simp [PT.size]; omega
termination_by hi - lo

def PPost (l : List IP) (g lo hi : Nat) (above d : Int) (out : List Int) (r : Bool) (w : World) (e : Ending) (w' : World) : Prop :=
  ∃ out' : List Int, e = .returned (.bool r) ∧ AR w' g 3 eInt out' ∧ out'.length = out.length ∧ Kg g w w' ∧ (∀ j, (j < lo ∨ hi ≤ j) → out'[j]? = out[j]?) ∧
    ∀ t, ptR l lo hi d = some t → ∀ j, j < hi - lo → out'[lo + j]? = (t.pars above)[j]?

set_option maxRecDepth 100000 in
set_option maxHeartbeats 1000000 in
theorem parents_any (l : List IP) (v : Value) (g : Nat) (hl : l.length ≤ 1000) (hvg : 0 < l.length → v.ownBlock ≠ some g) (n : Nat) : ∀ (lo hi : Nat) (above d : Int) (out : List Int) (r : Bool) (w : World), hi - lo ≤ n → lo ≤ hi → hi ≤ l.length → 0 ≤ d → d + n ≤ 1000000 →
    RD w ePair v l → AR w g 3 eInt out → out.length = l.length → (ptR l lo hi d).isSome = r →
    Calls Try.prog 48 #[v, .int .i64 (lo : Int), .int .i64 (hi : Int), .int .i64 above, .int .i64 d, .slice (some ⟨g, 0, none⟩) out.length out.length] w (PPost l g lo hi above d out r w) := by
  induction n with
  | zero =>
    intro lo hi above d out r w h1 h2 h3 h4 h5 hr ha hol hres
    obtain rfl : lo = hi := by omega
    have hpt := ptR_nil l lo lo d (by omega)
    rw [hpt] at hres
    obtain rfl : true = r := hres
    have HPT := hide hpt
    have HA := hide ha
    clear hpt hr ha hol hvg
    go_enter Try.func48, Try.ntmps48
    go_wp2
    go_ret
    exact ⟨out, rfl, HA.out, rfl, Kg.refl _ _, fun _ _ => rfl, fun t ht j hj => by omega⟩
  | succ n ih =>
    intro lo hi above d out r w h1 h2 h3 h4 h5 hr ha hol hres
    by_cases hlt : lo < hi
    · have hne : ((lo : Int) == (hi : Int)) = false := by simp; omega
      have htin := topS_in l lo hi hlt
      obtain ⟨⟨at_, al⟩, htop⟩ : ∃ p, p = topS l lo hi := ⟨_, rfl⟩
      rw [← htop] at htin
      have HTC := hide (fun w h => top_any l v lo hi w h hlt h3)
      rw [← htop] at HTC
      simp only at htin HTC
      obtain ⟨hi1, hi2⟩ := htin
      have HR := hide hr
      have HA := hide ha
      have HIH := hide ih
      have HVG := hide hvg
      clear hr ha ih hvg
      cases al with
      | false =>
        have hpt := ptR_none l lo hi d hlt (by rw [← htop]; simp)
        rw [hpt] at hres
        obtain rfl : false = r := hres
        have HPT := hide hpt
        clear hpt hol htop
        go_enter Try.func48, Try.ntmps48
        go_wp2_with (go_at_call 49; refine (HTC.out _ HR.out).mono ?_; rintro e w1 ⟨rfl, m, rfl⟩)
        go_ret
        exact ⟨out, rfl, HA.out, rfl, Kg.of (Kp.refl _).drewN, fun _ _ => rfl, fun t ht => by rw [HPT.out] at ht; cases ht⟩
      | true =>
        obtain ⟨A, c, rfl, hc, hm⟩ := HR.out.shape
        have hatl : at_ < l.length := by omega
        obtain ⟨b, o, rfl, hb, c0, c1⟩ := HR.out.pair (k := at_) hatl
        have hgv := gv_eq l at_ hatl
        have b1 : (at_ : Int) < (l.length : Int) := by omega
        by_cases hd : l[at_].2 = d
        · have hpt := ptR_node l lo hi d hlt at_ htop.symm (by rw [hgv, hd])
          have HD := hide hd
          have hnd : (l[at_].2 != d) = false := by simp [hd]
          clear hd hgv htop
          have HPT := hide hpt
          clear hpt
          have hw : IntKind.i64.wrap (d + 1) = d + 1 := IntWalk.i64_in _ (by omega)
          obtain ⟨x0, y0⟩ : ∃ x, w.cell? ⟨g, at_, none⟩ = some x := ⟨_, HA.out.int (by omega)⟩
          have f0 : w.frozen? ⟨g, at_, none⟩ = false := HA.out.frozen _
          have hgw := HA.out.lt
          have b2 : (at_ : Int) < (out.length : Int) := by omega
          have b3 : (out.length : Int) ≤ 1000 := by omega
          have HOL := hide hol
          clear hol
          have hsl : (out.set at_ above).length = out.length := by simp
          have HC1 := hide (fun r W (h : Kg g w W) (h2 : AR W g 3 eInt (out.set at_ above)) hr => HIH.out lo at_ at_ (d + 1) (out.set at_ above) r W (by omega) (by omega) (by omega) (by omega) (by omega) (HR.out.kg HVG.out h) h2 (by rw [hsl, HOL.out]) hr)
          have HC2 := hide (fun r W (out1 : List Int) (h0 : out1.length = out.length) (h : Kg g w W) (h2 : AR W g 3 eInt out1) hr => HIH.out (at_ + 1) hi at_ (d + 1) out1 r W (by omega) (by omega) (by omega) (by omega) (by omega) (HR.out.kg HVG.out h) h2 (by rw [h0, HOL.out]) hr)
          rw [hsl] at HC1
          have HSL := hide hsl
          clear hsl
          have tn : ((at_ : Int) + 1).toNat = at_ + 1 := by omega
          cases hpa : ptR l lo at_ (d + 1) with
          | none =>
            have hpn : ptR l lo hi d = none := by rw [HPT.out, hpa]
            rw [hpn] at hres
            obtain rfl : false = r := hres
            have HPN := hide hpn
            have HPA := hide hpa
            clear hpn hpa
            go_enter Try.func48, Try.ntmps48
            go_wp2_with (go_at_call 49; refine (HTC.out _ HR.out).mono ?_; rintro e w1 ⟨rfl, m, rfl⟩)
            refine (HC1.out false _ (Kg.of (Kp.refl w).drewN).set (HA.out.drewN.set above) (by rw [HPA.out]; rfl)).mono ?_
            rintro e w2 ⟨out1, rfl, ha1, hl1, hk1, hs1, ht1⟩
            have HA1 := hide ha1
            have HS1 := hide hs1
            have HL1 := hide hl1
            clear ha1 hl1 hs1 ht1
            go_wp2
            go_ret
            refine ⟨out1, rfl, HA1.out, by rw [HL1.out, HSL.out], (Kg.of (Kp.refl w).drewN).set.trans hk1, fun j hj => ?_, fun t ht => by rw [HPN.out] at ht; cases ht⟩
            rw [HS1.out j (by omega), List.getElem?_set_ne (by omega)]
          | some ta =>
            have hsa := ptR_size l lo at_ (d + 1) ta hi1 hpa
            cases hpb : ptR l (at_ + 1) hi (d + 1) with
            | none =>
              have hpn : ptR l lo hi d = none := by rw [HPT.out, hpa, hpb]
              rw [hpn] at hres
              obtain rfl : false = r := hres
              have HPN := hide hpn
              have HPA := hide hpa
              have HPB := hide hpb
              clear hpn hpa hpb hsa
              go_enter Try.func48, Try.ntmps48
              go_wp2_with (go_at_call 49; refine (HTC.out _ HR.out).mono ?_; rintro e w1 ⟨rfl, m, rfl⟩)
              refine (HC1.out true _ (Kg.of (Kp.refl w).drewN).set (HA.out.drewN.set above) (by rw [HPA.out]; rfl)).mono ?_
              rintro e w2 ⟨out1, rfl, ha1, hl1, hk1, hs1, ht1⟩
              have HA1 := hide ha1
              have HS1 := hide hs1
              have hk1' : Kg g w w2 := (Kg.of (Kp.refl w).drewN).set.trans hk1
              have hl1' : out1.length = out.length := by rw [hl1, HSL.out]
              have HC := HC2.out false w2 out1 hl1' hk1' HA1.out (by rw [HPB.out]; rfl)
              rw [hl1'] at HC
              have HCH := hide HC
              have HL1 := hide hl1'
              clear ha1 hl1 hs1 ht1 HC hl1'
              go_wp2_with fail
              refine HCH.out.mono ?_
              rintro e w3 ⟨out2, rfl, ha2, hl2, hk2, hs2, ht2⟩
              have HA2 := hide ha2
              have HS2 := hide hs2
              have HL2 := hide hl2
              clear ha2 hl2 hs2 ht2
              go_wp2
              go_ret
              refine ⟨out2, rfl, HA2.out, by rw [HL2.out, HL1.out], hk1'.trans hk2, fun j hj => ?_, fun t ht => by rw [HPN.out] at ht; cases ht⟩
              rw [HS2.out j (by omega), HS1.out j (by omega), List.getElem?_set_ne (by omega)]
            | some tb =>
              have hpn : ptR l lo hi d = some (.node at_ ta tb) := by rw [HPT.out, hpa, hpb]
              rw [hpn] at hres
              obtain rfl : true = r := hres
              have HPN := hide hpn
              have HPA := hide hpa
              have HPB := hide hpb
              have HSA := hide hsa
              clear hpn hpa hpb hsa
              go_enter Try.func48, Try.ntmps48
              go_wp2_with (go_at_call 49; refine (HTC.out _ HR.out).mono ?_; rintro e w1 ⟨rfl, m, rfl⟩)
              refine (HC1.out true _ (Kg.of (Kp.refl w).drewN).set (HA.out.drewN.set above) (by rw [HPA.out]; rfl)).mono ?_
              rintro e w2 ⟨out1, rfl, ha1, hl1, hk1, hs1, ht1⟩
              have HA1 := hide ha1
              have HS1 := hide hs1
              have HT1 := hide ht1
              have hk1' : Kg g w w2 := (Kg.of (Kp.refl w).drewN).set.trans hk1
              have hl1' : out1.length = out.length := by rw [hl1, HSL.out]
              have HC := HC2.out true w2 out1 hl1' hk1' HA1.out (by rw [HPB.out]; rfl)
              rw [hl1'] at HC
              have HCH := hide HC
              have HL1 := hide hl1'
              clear ha1 hl1 hs1 ht1 HC hl1'
              go_wp2_with fail
              refine HCH.out.mono ?_
              rintro e w3 ⟨out2, rfl, ha2, hl2, hk2, hs2, ht2⟩
              have HA2 := hide ha2
              have HS2 := hide hs2
              have HL2 := hide hl2
              have HT2 := hide ht2
              clear ha2 hl2 hs2 ht2
              go_wp2
              go_ret
              refine ⟨out2, rfl, HA2.out, by rw [HL2.out, HL1.out], hk1'.trans hk2, fun j hj => ?_, fun t ht j hj => ?_⟩
              · rw [HS2.out j (by omega), HS1.out j (by omega), List.getElem?_set_ne (by omega)]
              · rw [HPN.out] at ht
                injection ht with ht
                subst ht
                have hsa := HSA.out
                have hpl := PT.pars_len ta (at_ : Int)
                have h9 := HOL.out
                simp only [PT.pars, List.append_assoc]
                rcases Nat.lt_trichotomy j (at_ - lo) with hj1 | hj1 | hj1
                · rw [HS2.out _ (by omega), HT1.out ta HPA.out j hj1, List.getElem?_append_left (by omega)]
                · rw [HS2.out _ (by omega), HS1.out _ (by omega), List.getElem?_append_right (by omega), hpl, show j - ta.size = 0 from by omega]
                  rw [show lo + j = at_ from by omega, List.getElem?_set_self (by omega)]
                  rfl
                · have h8 := HT2.out tb HPB.out (j - (at_ + 1 - lo)) (by omega)
                  rw [show at_ + 1 + (j - (at_ + 1 - lo)) = lo + j from by omega] at h8
                  rw [h8, List.getElem?_append_right (by omega), hpl, show j - ta.size = (j - (at_ + 1 - lo)) + 1 from by omega]
                  rfl
        · have hpt := ptR_none l lo hi d hlt (by rw [← htop]; simp only [hgv]; exact fun h => hd h.2)
          rw [hpt] at hres
          obtain rfl : false = r := hres
          have HPT := hide hpt
          have hnd : (l[at_].2 != d) = true := by simp [hd]
          clear hpt hol htop hd hgv
          go_enter Try.func48, Try.ntmps48
          go_wp2_with (go_at_call 49; refine (HTC.out _ HR.out).mono ?_; rintro e w1 ⟨rfl, m, rfl⟩)
          go_ret
          exact ⟨out, rfl, HA.out, rfl, Kg.of (Kp.refl _).drewN, fun _ _ => rfl, fun t ht => by rw [HPT.out] at ht; cases ht⟩
    · obtain rfl : lo = hi := by omega
      have hpt := ptR_nil l lo lo d (by omega)
      rw [hpt] at hres
      obtain rfl : true = r := hres
      have HPT := hide hpt
      have HA := hide ha
      clear hpt hr ha hol hvg ih
      go_enter Try.func48, Try.ntmps48
      go_wp2
      go_ret
      exact ⟨out, rfl, HA.out, rfl, Kg.refl _ _, fun _ _ => rfl, fun t ht j hj => by omega⟩
end Go.Proofs.Ytcpponjknmkfaaa
