/-
  shape.top, shape.parents, shape.read, shape.Parents: what they answer
  shape.walk: what it appends
  shape.read, shape.Parents: what they answer
-/
import Derived.Test.YtcljlnagpjilaaaGreatDoorG19
import Derived.Test.YtcljlnagpjilaaaGreatDoorG2
import Derived.Test.YtcljlnagpjilaaaGreatDoorG6
import Derived.Test.YtcljlnagpjilaaaGreatDoorG3

set_option linter.unusedVariables false
set_option linter.unusedSimpArgs false
set_option maxRecDepth 100000
set_option maxHeartbeats 8000000
namespace Go.Proofs.YtcljlnagpjilaaaGreatDoor
open Go.ChangeShapes Go.WideShapes Go.ChangeAt Go.RowKit
def topF (l : List IP) : Nat -> Nat -> Nat -> Bool -> Nat × Bool
 | 0, _, a, al => (a, al)
 | n + 1, k, a, al => if gv l k < gv l a then topF l n (k + 1) k true else if gv l k = gv l a then topF l n (k + 1) a false else topF l n (k + 1) a al
def topS (l : List IP) (lo hi : Nat) : Nat × Bool := topF l (hi - (lo + 1)) (lo + 1) lo true
theorem topF_in (l : List IP) (lo hi : Nat) : ∀ n k a al, lo <= a -> a < hi -> k + n <= hi -> lo <= k -> lo <= (topF l n k a al).1 /\ (topF l n k a al).1 < hi
 | 0, k, a, al, h1, h2, _, _ => ⟨h1, h2⟩
 | n + 1, k, a, al, h1, h2, h3, h4 => by
  unfold topF
  split
  ·exact topF_in l lo hi n (k + 1) k true h4 (by omega) (by omega) (by omega)
  ·split
   ·exact topF_in l lo hi n (k + 1) a false h1 h2 (by omega) (by omega)
   ·exact topF_in l lo hi n (k + 1) a al h1 h2 (by omega) (by omega)
theorem topS_in (l : List IP) (lo hi : Nat) (h : lo < hi) : lo <= (topS l lo hi).1 /\ (topS l lo hi).1 < hi := topF_in l lo hi _ _ _ _ (Nat.le_refl _) h (by omega) (by omega)
def TopRel (l : List IP) (lo hi : Nat) (w : World) (av alv iv : Value) (wr : World) : Prop :=
 ∃ (k a : Nat) (al : Bool), k <= hi /\ a < hi /\ iv = .int .i64 k /\ av = .int .i64 a /\ alv = .bool al /\ topF l (hi - k) k a al = topS l lo hi /\ ∃ n, wr = w.drewN n
theorem top_any (l : List IP) (v : Value) (lo hi : Nat) (w : World) (hr : RD w ePair v l) (h1 : lo < hi) (h2 : hi <= l.length) :
  Calls Tryz.prog 128 #[v, .int .i64 (lo : Int), .int .i64 (hi : Int)] w (Drew (.tuple #[.int .i64 ((topS l lo hi).1 : Nat), .bool (topS l lo hi).2]) w) := by
 obtain ⟨A, c, rfl, hc, hm⟩ := hr.shape
 have HR := hide hr
 clear hr
 have b1 : (lo : Int) + 1 <= (hi : Int) := by omega
 have b2 : (hi : Int) <= 9223372036854775807 := by omega
 go_enter Tryz.func128, Tryz.ntmps128
 go_wp2
 go_loopw [8, 9, 10] (TopRel l lo hi w) (fun _ _ i _ => hi - (intOf i).toNat)
 case atStart => exact ⟨lo + 1, lo, true, by omega, by omega, by go_num, rfl, rfl, rfl, 0, rfl⟩
 case round =>
  obtain ⟨k, a, al, hk, ha, rfl, rfl, rfl, htop, n, rfl⟩ := hrel
  have HT := hide htop
  clear htop
  by_cases hlt : k < hi
  ·obtain ⟨b, o, rfl, hb, c0, c1⟩ := (HR.out).pair (k := k) (by omega)
   obtain ⟨b', o', e1, _, d0, d1⟩ := (HR.out).pair (k := a) (by omega)
   injection e1 with e1
   injection e1 with e2 e3
   subst e2 e3
   have hst : Hid (topF l (hi - k) k a al = if gv l k < gv l a then topF l (hi - (k + 1)) (k + 1) k true else if gv l k = gv l a then topF l (hi - (k + 1)) (k + 1) a false else topF l (hi - (k + 1)) (k + 1) a al) :=
    hide (by rw [show hi - k = (hi - (k + 1)) + 1 from by omega, topF])
   have hg1 := gv_eq l k (by omega)
   have hg2 := gv_eq l a (by omega)
   have b3 : (k : Int) < (l.length : Int) := by omega
   have b4 : (a : Int) < (l.length : Int) := by omega
   have b5 : (0 : Int) <= (k : Int) := by omega
   have b6 : (0 : Int) <= (a : Int) := by omega
   rcases Int.lt_trichotomy l[k].2 l[a].2 with hd | hd | hd
   ·have hn : Hid (topF l (hi - (k + 1)) (k + 1) k true = topS l lo hi) := hide (by rw [<- HT.out, hst.out, if_pos (by rw [hg1, hg2]; exact hd)])
    clear hg1 hg2
    go_wp2_with fail
    go_quiet (fail)
    go_wp2
    go_roundw
    case rel => exact ⟨k + 1, k, true, by omega, by omega, by go_num, rfl, rfl, hn.out, _, rfl⟩
    case measure => simp [intOf]; omega
   ·have hn : Hid (topF l (hi - (k + 1)) (k + 1) a false = topS l lo hi) := hide (by rw [<- HT.out, hst.out, if_neg (by rw [hg1, hg2]; omega), if_pos (by rw [hg1, hg2]; exact hd)])
    have hq1 : decide (l[k].2 < l[a].2) = false := by simp; omega
    have hq2 : (l[k].2 == l[a].2) = true := by simp; omega
    clear hg1 hg2 hd
    go_wp2_with fail
    go_quiet (fail)
    go_wp2_with fail
    go_quiet (fail)
    go_wp2
    go_roundw
    case rel => exact ⟨k + 1, a, false, by omega, by omega, by go_num, rfl, rfl, hn.out, _, rfl⟩
    case measure => simp [intOf]; omega
   ·have hn : Hid (topF l (hi - (k + 1)) (k + 1) a al = topS l lo hi) := hide (by rw [<- HT.out, hst.out, if_neg (by rw [hg1, hg2]; omega), if_neg (by rw [hg1, hg2]; omega)])
    have hq1 : decide (l[k].2 < l[a].2) = false := by simp; omega
    have hq2 : (l[k].2 == l[a].2) = false := by simp; omega
    clear hg1 hg2 hd
    go_wp2_with fail
    go_quiet (fail)
    go_wp2_with fail
    go_quiet (fail)
    go_wp2
    go_roundw
    case rel => exact ⟨k + 1, a, al, by omega, by omega, by go_num, rfl, rfl, hn.out, _, rfl⟩
    case measure => simp [intOf]; omega
  ·have hn : Hid (((a : Nat), al) = topS l lo hi) := hide (by rw [<- HT.out, show hi - k = 0 from by omega]; rfl)
   go_wp2
   go_ret2
   exact ⟨by rw [<- hn.out]; rfl, _, rfl⟩
def ptR (l : List IP) (lo hi : Nat) (d : Int) : Option PT :=
 if h : lo < hi then
  have := topS_in l lo hi h
  if (topS l lo hi).2 = true /\ gv l (topS l lo hi).1 = d then
   match ptR l lo (topS l lo hi).1 (d + 1), ptR l ((topS l lo hi).1 + 1) hi (d + 1) with
   | some a, some b => some (.node (topS l lo hi).1 a b)
   | _, _ => none
  else none
 else some .nil
termination_by hi - lo
theorem ptR_nil (l : List IP) (lo hi : Nat) (d : Int) (h : ¬ lo < hi) : ptR l lo hi d = some .nil := by rw [ptR, dif_neg h]
theorem ptR_node (l : List IP) (lo hi : Nat) (d : Int) (h : lo < hi) (at_ : Nat) (ht : topS l lo hi = (at_, true)) (hd : gv l at_ = d) :
  ptR l lo hi d = match ptR l lo at_ (d + 1), ptR l (at_ + 1) hi (d + 1) with
   | some a, some b => some (.node at_ a b)
   | _, _ => none := by
 rw [ptR, dif_pos h]
 simp only [ht, hd, and_self, if_true]
theorem ptR_none (l : List IP) (lo hi : Nat) (d : Int) (h : lo < hi) (hn : ¬ ((topS l lo hi).2 = true /\ gv l (topS l lo hi).1 = d)) : ptR l lo hi d = none := by
 rw [ptR, dif_pos h]
 simp only [if_neg hn]
theorem ptR_size (l : List IP) (lo hi : Nat) (d : Int) (t : PT) (hlh : lo <= hi) (h : ptR l lo hi d = some t) : t.size = hi - lo := by
 by_cases h0 : lo < hi
 ·have ht := topS_in l lo hi h0
  by_cases h1 : (topS l lo hi).2 = true /\ gv l (topS l lo hi).1 = d
  ·rw [ptR_node l lo hi d h0 (topS l lo hi).1 (by rw [<- h1.1]) h1.2] at h
   cases ha : ptR l lo (topS l lo hi).1 (d + 1) with
   | none => rw [ha] at h; simp at h
   | some a =>
    cases hb : ptR l ((topS l lo hi).1 + 1) hi (d + 1) with
    | none => rw [ha, hb] at h; simp at h
    | some b =>
     rw [ha, hb] at h
     simp only [Option.some.injEq] at h
     subst h
     have h2 := ptR_size l lo (topS l lo hi).1 (d + 1) a ht.1 ha
     have h3 := ptR_size l ((topS l lo hi).1 + 1) hi (d + 1) b (by omega) hb
     simp only [PT.size]
     omega
  ·rw [ptR_none l lo hi d h0 h1] at h
   cases h
 ·rw [ptR_nil l lo hi d h0] at h
  injection h with h
  subst h
  simp [PT.size]; omega
termination_by hi - lo
def PPost (l : List IP) (g lo hi : Nat) (above d : Int) (out : List Int) (r : Bool) (w : World) (e : Ending) (w' : World) : Prop :=
 ∃ out' : List Int, e = .returned (.bool r) /\ AR w' g 3 eInt out' /\ out'.length = out.length /\ Kg g w w' /\ (∀ j, (j < lo ∨ hi <= j) -> out'[j]? = out[j]?) /\
  ∀ t, ptR l lo hi d = some t -> ∀ j, j < hi - lo -> out'[lo + j]? = (t.pars above)[j]?
theorem parents_any (l : List IP) (v : Value) (g : Nat) (hl : l.length <= 1000) (hvg : 0 < l.length -> v.ownBlock ≠ some g) (n : Nat) : ∀ (lo hi : Nat) (above d : Int) (out : List Int) (r : Bool) (w : World), hi - lo <= n -> lo <= hi -> hi <= l.length -> 0 <= d -> d + n <= 1000000 ->
  RD w ePair v l -> AR w g 3 eInt out -> out.length = l.length -> (ptR l lo hi d).isSome = r ->
  Calls Tryz.prog 167 #[v, .int .i64 (lo : Int), .int .i64 (hi : Int), .int .i64 above, .int .i64 d, .slice (some ⟨g, 0, none⟩) out.length out.length] w (PPost l g lo hi above d out r w) := by
 induction n with
 | zero =>
  intro lo hi above d out r w h1 h2 h3 h4 h5 hr ha hol hres
  obtain rfl : lo = hi := by omega
  have hpt := ptR_nil l lo lo d (by omega)
  rw [hpt] at hres
  obtain rfl : true = r := hres
  have HPT := hide hpt
  have HA := hide ha
  clear hpt hr ha hol hvg
  go_enter Tryz.func167, Tryz.ntmps167
  go_wp2
  go_ret
  exact ⟨out, rfl, HA.out, rfl, Kg.refl _ _, fun _ _ => rfl, fun t ht j hj => by omega⟩
 | succ n ih =>
  intro lo hi above d out r w h1 h2 h3 h4 h5 hr ha hol hres
  by_cases hlt : lo < hi
  ·have hne : ((lo : Int) == (hi : Int)) = false := by simp; omega
   have htin := topS_in l lo hi hlt
   obtain ⟨⟨at_, al⟩, htop⟩ : ∃ p, p = topS l lo hi := ⟨_, rfl⟩
   rw [<- htop] at htin
   have HTC := hide (fun w h => top_any l v lo hi w h hlt h3)
   rw [<- htop] at HTC
   simp only at htin HTC
   obtain ⟨hi1, hi2⟩ := htin
   have HR := hide hr
   have HA := hide ha
   have HIH := hide ih
   have HVG := hide hvg
   clear hr ha ih hvg
   cases al with
   | false =>
    have hpt := ptR_none l lo hi d hlt (by rw [<- htop]; simp)
    rw [hpt] at hres
    obtain rfl : false = r := hres
    have HPT := hide hpt
    clear hpt hol htop
    go_enter Tryz.func167, Tryz.ntmps167
    go_wp2_with (go_at_call 128; refine (HTC.out _ HR.out).mono ?_; rintro e w1 ⟨rfl, m, rfl⟩)
    go_ret
    exact ⟨out, rfl, HA.out, rfl, Kg.of (Kp.refl _).drewN, fun _ _ => rfl, fun t ht => by rw [HPT.out] at ht; cases ht⟩
   | true =>
    obtain ⟨A, c, rfl, hc, hm⟩ := HR.out.shape
    have hatl : at_ < l.length := by omega
    obtain ⟨b, o, rfl, hb, c0, c1⟩ := HR.out.pair (k := at_) hatl
    have hgv := gv_eq l at_ hatl
    have b1 : (at_ : Int) < (l.length : Int) := by omega
    by_cases hd : l[at_].2 = d
    ·have hpt := ptR_node l lo hi d hlt at_ htop.symm (by rw [hgv, hd])
     have HD := hide hd
     have hnd : (l[at_].2 != d) = false := by simp [hd]
     clear hd hgv htop
     have HPT := hide hpt
     clear hpt
     have hw : IntKind.i64.wrap (d + 1) = d + 1 := IntWalk.i64_in _ (by omega)
     obtain ⟨x0, y0⟩ : ∃ x, w.cell? ⟨g, at_, none⟩ = some x := ⟨_, HA.out.int (by omega)⟩
     have f0 : w.frozen? ⟨g, at_, none⟩ = false := HA.out.frozen _
     have hgw := HA.out.lt
     have b2 : (at_ : Int) < (out.length : Int) := by omega
     have b3 : (out.length : Int) <= 1000 := by omega
     have HOL := hide hol
     clear hol
     have hsl : (out.set at_ above).length = out.length := by simp
     have HC1 := hide (fun r W (h : Kg g w W) (h2 : AR W g 3 eInt (out.set at_ above)) hr => HIH.out lo at_ at_ (d + 1) (out.set at_ above) r W (by omega) (by omega) (by omega) (by omega) (by omega) (HR.out.kg HVG.out h) h2 (by rw [hsl, HOL.out]) hr)
     have HC2 := hide (fun r W (out1 : List Int) (h0 : out1.length = out.length) (h : Kg g w W) (h2 : AR W g 3 eInt out1) hr => HIH.out (at_ + 1) hi at_ (d + 1) out1 r W (by omega) (by omega) (by omega) (by omega) (by omega) (HR.out.kg HVG.out h) h2 (by rw [h0, HOL.out]) hr)
     rw [hsl] at HC1
     have HSL := hide hsl
     clear hsl
     have tn : ((at_ : Int) + 1).toNat = at_ + 1 := by omega
     cases hpa : ptR l lo at_ (d + 1) with
     | none =>
      have hpn : ptR l lo hi d = none := by rw [HPT.out, hpa]
      rw [hpn] at hres
      obtain rfl : false = r := hres
      have HPN := hide hpn
      have HPA := hide hpa
      clear hpn hpa
      go_enter Tryz.func167, Tryz.ntmps167
      go_wp2_with (go_at_call 128; refine (HTC.out _ HR.out).mono ?_; rintro e w1 ⟨rfl, m, rfl⟩)
      refine (HC1.out false _ (Kg.of (Kp.refl w).drewN).set (HA.out.drewN.set above) (by rw [HPA.out]; rfl)).mono ?_
      rintro e w2 ⟨out1, rfl, ha1, hl1, hk1, hs1, ht1⟩
      have HA1 := hide ha1
      have HS1 := hide hs1
      have HL1 := hide hl1
      clear ha1 hl1 hs1 ht1
      go_wp2
      go_ret
      refine ⟨out1, rfl, HA1.out, by rw [HL1.out, HSL.out], (Kg.of (Kp.refl w).drewN).set.trans hk1, fun j hj => ?_, fun t ht => by rw [HPN.out] at ht; cases ht⟩
      rw [HS1.out j (by omega), List.getElem?_set_ne (by omega)]
     | some ta =>
      have hsa := ptR_size l lo at_ (d + 1) ta hi1 hpa
      cases hpb : ptR l (at_ + 1) hi (d + 1) with
      | none =>
       have hpn : ptR l lo hi d = none := by rw [HPT.out, hpa, hpb]
       rw [hpn] at hres
       obtain rfl : false = r := hres
       have HPN := hide hpn
       have HPA := hide hpa
       have HPB := hide hpb
       clear hpn hpa hpb hsa
       go_enter Tryz.func167, Tryz.ntmps167
       go_wp2_with (go_at_call 128; refine (HTC.out _ HR.out).mono ?_; rintro e w1 ⟨rfl, m, rfl⟩)
       refine (HC1.out true _ (Kg.of (Kp.refl w).drewN).set (HA.out.drewN.set above) (by rw [HPA.out]; rfl)).mono ?_
       rintro e w2 ⟨out1, rfl, ha1, hl1, hk1, hs1, ht1⟩
       have HA1 := hide ha1
       have HS1 := hide hs1
       have hk1' : Kg g w w2 := (Kg.of (Kp.refl w).drewN).set.trans hk1
       have hl1' : out1.length = out.length := by rw [hl1, HSL.out]
       have HC := HC2.out false w2 out1 hl1' hk1' HA1.out (by rw [HPB.out]; rfl)
       rw [hl1'] at HC
       have HCH := hide HC
       have HL1 := hide hl1'
       clear ha1 hl1 hs1 ht1 HC hl1'
       go_wp2_with fail
       refine HCH.out.mono ?_
       rintro e w3 ⟨out2, rfl, ha2, hl2, hk2, hs2, ht2⟩
       have HA2 := hide ha2
       have HS2 := hide hs2
       have HL2 := hide hl2
       clear ha2 hl2 hs2 ht2
       go_wp2
       go_ret
       refine ⟨out2, rfl, HA2.out, by rw [HL2.out, HL1.out], hk1'.trans hk2, fun j hj => ?_, fun t ht => by rw [HPN.out] at ht; cases ht⟩
       rw [HS2.out j (by omega), HS1.out j (by omega), List.getElem?_set_ne (by omega)]
      | some tb =>
       have hpn : ptR l lo hi d = some (.node at_ ta tb) := by rw [HPT.out, hpa, hpb]
       rw [hpn] at hres
       obtain rfl : true = r := hres
       have HPN := hide hpn
       have HPA := hide hpa
       have HPB := hide hpb
       have HSA := hide hsa
       clear hpn hpa hpb hsa
       go_enter Tryz.func167, Tryz.ntmps167
       go_wp2_with (go_at_call 128; refine (HTC.out _ HR.out).mono ?_; rintro e w1 ⟨rfl, m, rfl⟩)
       refine (HC1.out true _ (Kg.of (Kp.refl w).drewN).set (HA.out.drewN.set above) (by rw [HPA.out]; rfl)).mono ?_
       rintro e w2 ⟨out1, rfl, ha1, hl1, hk1, hs1, ht1⟩
       have HA1 := hide ha1
       have HS1 := hide hs1
       have HT1 := hide ht1
       have hk1' : Kg g w w2 := (Kg.of (Kp.refl w).drewN).set.trans hk1
       have hl1' : out1.length = out.length := by rw [hl1, HSL.out]
       have HC := HC2.out true w2 out1 hl1' hk1' HA1.out (by rw [HPB.out]; rfl)
       rw [hl1'] at HC
       have HCH := hide HC
       have HL1 := hide hl1'
       clear ha1 hl1 hs1 ht1 HC hl1'
       go_wp2_with fail
       refine HCH.out.mono ?_
       rintro e w3 ⟨out2, rfl, ha2, hl2, hk2, hs2, ht2⟩
       have HA2 := hide ha2
       have HS2 := hide hs2
       have HL2 := hide hl2
       have HT2 := hide ht2
       clear ha2 hl2 hs2 ht2
       go_wp2
       go_ret
       refine ⟨out2, rfl, HA2.out, by rw [HL2.out, HL1.out], hk1'.trans hk2, fun j hj => ?_, fun t ht j hj => ?_⟩
       ·rw [HS2.out j (by omega), HS1.out j (by omega), List.getElem?_set_ne (by omega)]
       ·rw [HPN.out] at ht
        injection ht with ht
        subst ht
        have hsa := HSA.out
        have hpl := PT.pars_len ta (at_ : Int)
        have h9 := HOL.out
        simp only [PT.pars, List.append_assoc]
        rcases Nat.lt_trichotomy j (at_ - lo) with hj1 | hj1 | hj1
        ·rw [HS2.out _ (by omega), HT1.out ta HPA.out j hj1, List.getElem?_append_left (by omega)]
        ·rw [HS2.out _ (by omega), HS1.out _ (by omega), List.getElem?_append_right (by omega), hpl, show j - ta.size = 0 from by omega]
         rw [show lo + j = at_ from by omega, List.getElem?_set_self (by omega)]
         rfl
        ·have h8 := HT2.out tb HPB.out (j - (at_ + 1 - lo)) (by omega)
         rw [show at_ + 1 + (j - (at_ + 1 - lo)) = lo + j from by omega] at h8
         rw [h8, List.getElem?_append_right (by omega), hpl, show j - ta.size = (j - (at_ + 1 - lo)) + 1 from by omega]
         rfl
    ·have hpt := ptR_none l lo hi d hlt (by rw [<- htop]; simp only [hgv]; exact fun h => hd h.2)
     rw [hpt] at hres
     obtain rfl : false = r := hres
     have HPT := hide hpt
     have hnd : (l[at_].2 != d) = true := by simp [hd]
     clear hpt hol htop hd hgv
     go_enter Tryz.func167, Tryz.ntmps167
     go_wp2_with (go_at_call 128; refine (HTC.out _ HR.out).mono ?_; rintro e w1 ⟨rfl, m, rfl⟩)
     go_ret
     exact ⟨out, rfl, HA.out, rfl, Kg.of (Kp.refl _).drewN, fun _ _ => rfl, fun t ht => by rw [HPT.out] at ht; cases ht⟩
  ·obtain rfl : lo = hi := by omega
   have hpt := ptR_nil l lo lo d (by omega)
   rw [hpt] at hres
   obtain rfl : true = r := hres
   have HPT := hide hpt
   have HA := hide ha
   clear hpt hr ha hol hvg ih
   go_enter Tryz.func167, Tryz.ntmps167
   go_wp2
   go_ret
   exact ⟨out, rfl, HA.out, rfl, Kg.refl _ _, fun _ _ => rfl, fun t ht j hj => by omega⟩
def gk (l : List IP) (k : Nat) : Int := (l.getD k (0, 0)).1
theorem gk_eq (l : List IP) (k : Nat) (h : k < l.length) : gk l k = l[k].1 := by simp [gk, List.getD_eq_getElem?_getD, List.getElem?_eq_getElem h]
def walkF (l : List IP) (last : Bool) (lo hi : Nat) : List Int :=
 if h : lo < hi then
  have := topS_in l lo hi h
  if last then walkF l last lo (topS l lo hi).1 ++ walkF l last ((topS l lo hi).1 + 1) hi ++ [gk l (topS l lo hi).1]
  else [gk l (topS l lo hi).1] ++ walkF l last lo (topS l lo hi).1 ++ walkF l last ((topS l lo hi).1 + 1) hi
 else []
termination_by hi - lo
theorem walkF_nil (l : List IP) (last : Bool) (lo hi : Nat) (h : ¬ lo < hi) : walkF l last lo hi = [] := by rw [walkF, dif_neg h]
theorem walkF_last (l : List IP) (lo hi : Nat) (h : lo < hi) : walkF l true lo hi = walkF l true lo (topS l lo hi).1 ++ walkF l true ((topS l lo hi).1 + 1) hi ++ [gk l (topS l lo hi).1] := by rw [walkF, dif_pos h, if_pos rfl]
theorem walkF_first (l : List IP) (lo hi : Nat) (h : lo < hi) : walkF l false lo hi = [gk l (topS l lo hi).1] ++ walkF l false lo (topS l lo hi).1 ++ walkF l false ((topS l lo hi).1 + 1) hi := by rw [walkF, dif_pos h, if_neg (by simp)]
theorem walkF_len (l : List IP) (last : Bool) (lo hi : Nat) : (walkF l last lo hi).length = hi - lo := by
 by_cases h : lo < hi
 ·have ht := topS_in l lo hi h
  have h1 := walkF_len l last lo (topS l lo hi).1
  have h2 := walkF_len l last ((topS l lo hi).1 + 1) hi
  cases last
  ·rw [walkF_first l lo hi h]; simp [h1, h2]; omega
  ·rw [walkF_last l lo hi h]; simp [h1, h2]; omega
 ·rw [walkF_nil l last lo hi h]; simp; omega
termination_by hi - lo
theorem seg_split (l : List IP) (lo at_ hi : Nat) (h1 : lo <= at_) (h2 : at_ < hi) (h3 : hi <= l.length) : (l.take hi).drop lo = (l.take at_).drop lo ++ [l[at_]'(by omega)] ++ (l.take hi).drop (at_ + 1) := by
 apply List.ext_getElem?
 intro j
 by_cases hj : j < hi - lo
 ·rw [List.getElem?_drop, List.getElem?_take, if_pos (by omega)]
  rcases Nat.lt_trichotomy (lo + j) at_ with h | h | h
  ·rw [List.append_assoc, List.getElem?_append_left (by simp; omega), List.getElem?_drop, List.getElem?_take, if_pos h]
  ·rw [List.append_assoc, List.getElem?_append_right (by simp; omega)]
   rw [show j - (List.drop lo (List.take at_ l)).length = 0 from by simp; omega]
   rw [h]; simp
  ·rw [List.getElem?_append_right (by simp; omega)]
   simp only [List.length_append, List.length_drop, List.length_take, List.length_singleton]
   rw [List.getElem?_drop, List.getElem?_take, if_pos (by omega)]
   congr 1; omega
 ·rw [List.getElem?_eq_none (by simp; omega), List.getElem?_eq_none (by simp; omega)]
theorem walk_any (l : List IP) (v : Value) (g B : Nat) (last : Bool) (hl : l.length <= 1000) (hg : B <= g) (hvg : 0 < l.length -> Lo B v) (n : Nat) : ∀ (lo hi : Nat) (acc : List Int) (w : World), hi - lo <= n -> lo <= hi -> hi <= l.length -> acc.length + (hi - lo) <= 100000 ->
  RD w ePair v l -> OB w B g 69 3 eInt acc -> B <= w.heap.size ->
  Calls Tryz.prog 76 #[v, .int .i64 (lo : Int), .int .i64 (hi : Int), .bool last, .pointer (some ⟨g, 0, none⟩)] w (WPost B g 69 3 eInt (.tuple #[]) (acc ++ walkF l last lo hi) w) := by
 induction n with
 | zero =>
  intro lo hi acc w h1 h2 h3 h4 hr ho hB
  obtain rfl : lo = hi := by omega
  have H1 := hide (walkF_nil l last lo lo (by omega))
  have HO := hide ho
  clear ho hr hvg
  go_enter Tryz.func76, Tryz.ntmps76
  go_wp2
  obtain ⟨u, hb, hu, hn⟩ := HO.out
  exact bodyPost_ret (v := .tuple #[]) (by simp [results, Tryz.results76, go_sem]) rfl ⟨rfl, by rw [H1.out, List.append_nil]; exact HO.out, KO.refl (hb.cell 0)⟩
 | succ n ih =>
  intro lo hi acc w h1 h2 h3 h4 hr ho hB
  by_cases hlt : lo < hi
  ·have hne : ((lo : Int) == (hi : Int)) = false := by simp; omega
   have htin := topS_in l lo hi hlt
   have HWL := hide (walkF_last l lo hi hlt)
   have HWF := hide (walkF_first l lo hi hlt)
   have hw1 := walkF_len l last lo (topS l lo hi).1
   have hw2 := walkF_len l last ((topS l lo hi).1 + 1) hi
   have HTC := hide (fun w h => top_any l v lo hi w h hlt h3)
   obtain ⟨⟨at_, al⟩, htop⟩ : ∃ p, p = topS l lo hi := ⟨_, rfl⟩
   rw [<- htop] at htin HTC HWL HWF hw1 hw2
   simp only at htin HTC HWL HWF hw1 hw2
   obtain ⟨hi1, hi2⟩ := htin
   have hatl : at_ < l.length := by omega
   obtain ⟨A, c, rfl, hc, hm⟩ := hr.shape
   have HGK := hide (gk_eq l at_ hatl)
   have HR := hide hr
   have HO := hide ho
   have HIH := hide ih
   have HVG := hide hvg
   obtain ⟨u, hb, hu, hn⟩ := ho
   clear hr ih hvg htop
   have hwr : IntKind.i64.wrap ((at_ : Int) + 1) = (at_ : Int) + 1 := IntWalk.i64_in _ (by omega)
   have HLH := hide h4
   have HBh := hide hB
   have HC := hide (fun lo hi acc W k1 k2 k3 k4 hr ho hb => HIH.out lo hi acc W k1 k2 k3 k4 hr ho hb)
   obtain ⟨b, o, rfl, _, c0, c1⟩ := HR.out.pair (k := at_) hatl
   have b1 : (at_ : Int) < (l.length : Int) := by omega
   have b0 : (0 : Int) <= (at_ : Int) := by omega
   cases last with
   | false =>
    have HM1 : Hid ((acc.length + [l[at_].1].length) * 8 <= 140737488355328) := hide (by simp; omega)
    have HM2 : Hid (acc.length + [l[at_].1].length <= maxLen) := hide (by simp [maxLen]; omega)
    have hblk : u.ownBlock ≠ some b := fun e => by have := HVG.out (by omega) b rfl; have := (hu.lt b e).1; omega
    have KS : Hid (∀ W', KV u w W' -> (W'.cell? ⟨b, o + at_ * 2, none⟩ = some (.int .i64 l[at_].1) /\ W'.cell? ⟨g, 0, none⟩ = some u /\ W'.frozen? ⟨g, 0, none⟩ = false /\ KV u w W')) :=
     hide fun W' h => ⟨h.cell hblk c0, h.cell hn (hb.cell 0), (h.frozen hb.lt hn).trans (hb.frozen 0), h⟩
    go_enter Tryz.func76, Tryz.ntmps76
    go_wp2_with (go_at_call 128; refine (HTC.out _ HR.out).mono ?_; rintro e w1 ⟨rfl, m, rfl⟩)
    have g0 := hb.cell 0
    have f0 := hb.frozen 0
    have L1 : ∀ n o, ((w.drewN n).alloc o).cell? ⟨g, 0, none⟩ = some u := fun n o => ((Kp.refl w).drewN.alloc).cell g0
    have L2 : ∀ n o', ((w.drewN n).alloc o').cell? ⟨b, o + at_ * 2, none⟩ = some (.int .i64 l[at_].1) := fun n o' => ((Kp.refl w).drewN.alloc).cell c0
    go_region_law (((with_reducible refine step_app (l := acc) (m := [l[at_].1]) row_int u ?_ (.tmp 27) (.tmp 33) ?_ ?_ ?_ ?_ HM1.out HM2.out (Nat.le_trans HBh.out (KV.size (w := w) (v := u) ?_)) ?_); (with_reducible rfl); (with_reducible rfl); rfl; (exact OW.auto); (show RD _ _ (.slice (some ⟨_, 0, none⟩) 1 1) _; (exact RD.auto)); (go_split_ands; (focus ((repeat (first | (with_reducible first | assumption | exact KV.refl _ _ | apply KV.drew | apply KV.drewN | apply KV.alloc) | ((with_reducible apply KV.call); (with_reducible assumption)) | ((with_reducible apply KV.app); (with_reducible assumption)))); done))); intro v3 w3 ho3 hg3 hat3; obtain ⟨_, sc3, sf3, _⟩ := KS.out w3 (by go_split_ands; (focus ((repeat (first | (with_reducible first | assumption | exact KV.refl _ _ | apply KV.drew | apply KV.drewN | apply KV.alloc) | ((with_reducible apply KV.call); (with_reducible assumption)) | ((with_reducible apply KV.app); (with_reducible assumption)))); done))); obtain ⟨A3, N3, c3, rfl⟩ := ho3.rd.slice))
    all_goals
     have hat9 := hat3.imp id (fun e => show Hi w.heap.size (Value.slice A3 N3 c3) from fun k hk => by rw [e] at hk; injection hk with hk; subst hk; simp <;> omega)
     obtain ⟨ho4, hk4⟩ := ob_app hb hu hn (show KV u w w3 by (focus ((repeat (first | (with_reducible first | assumption | exact KV.refl _ _ | apply KV.drew | apply KV.drewN | apply KV.alloc) | ((with_reducible apply KV.call); (with_reducible assumption)) | ((with_reducible apply KV.app); (with_reducible assumption)))); done))) ho3 hat9
     have HR4 := hide (HR.out.ko HO.out hk4 HVG.out hg)
     have HZ4 := hide hk4.size
     have HO4 := hide ho4
     have HK4 := hide hk4
     clear ho4 hk4 hat9 hat3 hg3 ho3 sc3 sf3 L1 L2 g0 f0
     go_wp2_with fail
     refine (HC.out lo at_ (acc ++ [l[at_].1]) _ (by omega) hi1 (by omega) (by (try simp only [List.length_append, List.length_cons, List.length_nil]); skip; omega) HR4.out HO4.out (Nat.le_trans HBh.out (by have := HZ4.out; omega))).mono ?_
     rintro e w5 ⟨rfl, ho5, hk5⟩
     have HR5 := hide (HR4.out.ko HO4.out hk5 HVG.out hg)
     have HZ5 : Hid (w.heap.size <= w5.heap.size) := hide (by have h1 := HZ4.out; have h2 := hk5.size; omega)
     have HO5 := hide ho5
     have HK5 := hide (HK4.out.trans hk5)
     clear ho5 hk5
     go_wp2_with fail
     refine (HC.out (at_ + 1) hi (acc ++ [l[at_].1] ++ walkF l false lo at_) _ (by omega) (by omega) (by omega) (by (try simp only [List.length_append, List.length_cons, List.length_nil]); rw [hw1]; omega) HR5.out HO5.out (Nat.le_trans HBh.out (by have := HZ5.out; omega))).mono ?_
     rintro e w6 ⟨rfl, ho6, hk6⟩
     have HR6 := hide (HR5.out.ko HO5.out hk6 HVG.out hg)
     have HZ6 : Hid (w.heap.size <= w6.heap.size) := hide (by have h1 := HZ5.out; have h2 := hk6.size; omega)
     have HO6 := hide ho6
     have HK6 := hide (HK5.out.trans hk6)
     clear ho6 hk6
     go_wp2
     exact bodyPost_ret (v := .tuple #[]) (by simp [results, Tryz.results76, go_sem]) rfl ⟨rfl, by rw [HWF.out, HGK.out]; simpa [List.append_assoc] using HO6.out, HK6.out⟩
   | true =>
    go_enter Tryz.func76, Tryz.ntmps76
    go_wp2_with (go_at_call 128; refine (HTC.out _ HR.out).mono ?_; rintro e w1 ⟨rfl, m, rfl⟩)
    have HO4 := hide (HO.out.kp ((Kp.refl w).drewN (n := m)))
    have HR4 := hide (HR.out.kp ((Kp.refl w).drewN (n := m)))
    have HZ4 := hide ((Kp.refl w).drewN (n := m)).size
    have HK4 : Hid (KO g B w (w.drewN m)) := hide ((KO.refl (hb.cell 0)).on (Kp.refl w).drewN)
    refine (HC.out lo at_ acc _ (by omega) hi1 (by omega) (by (try simp only [List.length_append, List.length_cons, List.length_nil]); skip; omega) HR4.out HO4.out (Nat.le_trans HBh.out (by have := HZ4.out; omega))).mono ?_
    rintro e w5 ⟨rfl, ho5, hk5⟩
    have HR5 := hide (HR4.out.ko HO4.out hk5 HVG.out hg)
    have HZ5 : Hid (w.heap.size <= w5.heap.size) := hide (by have h1 := HZ4.out; have h2 := hk5.size; omega)
    have HO5 := hide ho5
    have HK5 := hide (HK4.out.trans hk5)
    clear ho5 hk5
    go_wp2_with fail
    refine (HC.out (at_ + 1) hi (acc ++ walkF l true lo at_) _ (by omega) (by omega) (by omega) (by (try simp only [List.length_append, List.length_cons, List.length_nil]); rw [hw1]; omega) HR5.out HO5.out (Nat.le_trans HBh.out (by have := HZ5.out; omega))).mono ?_
    rintro e w6 ⟨rfl, ho6, hk6⟩
    have HR6 := hide (HR5.out.ko HO5.out hk6 HVG.out hg)
    have HZ6 : Hid (w.heap.size <= w6.heap.size) := hide (by have h1 := HZ5.out; have h2 := hk6.size; omega)
    have HO6 := hide ho6
    have HK6 := hide (HK5.out.trans hk6)
    clear ho6 hk6
    obtain ⟨u6, hb6, hu6, hn6⟩ := HO6.out
    obtain ⟨b', o', e1, _, d0, _⟩ := HR6.out.pair (k := at_) hatl
    injection e1 with e1
    injection e1 with e2 e3
    subst e2 e3
    obtain ⟨acc6, hacc⟩ : ∃ a, a = acc ++ walkF l true lo at_ ++ walkF l true (at_ + 1) hi := ⟨_, rfl⟩
    have hal : acc6.length <= 100000 := by rw [hacc]; simp only [List.length_append, hw1, hw2]; omega
    have HACC := hide hacc
    rw [<- hacc] at hu6
    clear hacc
    have HM1 : Hid ((acc6.length + [l[at_].1].length) * 8 <= 140737488355328) := hide (by simp; omega)
    have HM2 : Hid (acc6.length + [l[at_].1].length <= maxLen) := hide (by simp [maxLen]; omega)
    have hblk : u6.ownBlock ≠ some b := fun e => by have := HVG.out (by omega) b rfl; have := (hu6.lt b e).1; omega
    have KS : Hid (∀ W', KV u6 w6 W' -> (W'.cell? ⟨b, o + at_ * 2, none⟩ = some (.int .i64 l[at_].1) /\ W'.cell? ⟨g, 0, none⟩ = some u6 /\ W'.frozen? ⟨g, 0, none⟩ = false /\ KV u6 w6 W')) :=
     hide fun W' h => ⟨h.cell hblk d0, h.cell hn6 (hb6.cell 0), (h.frozen hb6.lt hn6).trans (hb6.frozen 0), h⟩
    have g0 := hb6.cell 0
    have f0 := hb6.frozen 0
    have HB6 : Hid (B <= w6.heap.size) := hide (Nat.le_trans HBh.out HZ6.out)
    have L1 : ∀ n o, ((w6.drewN n).alloc o).cell? ⟨g, 0, none⟩ = some u6 := fun n o => ((Kp.refl w6).drewN.alloc).cell g0
    have L2 : ∀ n o', ((w6.drewN n).alloc o').cell? ⟨b, o + at_ * 2, none⟩ = some (.int .i64 l[at_].1) := fun n o' => ((Kp.refl w6).drewN.alloc).cell d0
    have L3 : ∀ o, (w6.drew.alloc o).cell? ⟨g, 0, none⟩ = some u6 := fun o => ((Kp.refl w6).drew.alloc).cell g0
    have L4 : ∀ o', (w6.drew.alloc o').cell? ⟨b, o + at_ * 2, none⟩ = some (.int .i64 l[at_].1) := fun o' => ((Kp.refl w6).drew.alloc).cell d0
    have L5 : ∀ o, ((w6.alloc o).drew).cell? ⟨g, 0, none⟩ = some u6 := fun o => ((Kp.refl w6).alloc.drew).cell g0
    have L6 : ∀ o', ((w6.alloc o').drew).cell? ⟨b, o + at_ * 2, none⟩ = some (.int .i64 l[at_].1) := fun o' => ((Kp.refl w6).alloc.drew).cell d0
    have L7 : ∀ o, (w6.alloc o).cell? ⟨g, 0, none⟩ = some u6 := fun o => ((Kp.refl w6).alloc).cell g0
    have L8 : ∀ o', (w6.alloc o').cell? ⟨b, o + at_ * 2, none⟩ = some (.int .i64 l[at_].1) := fun o' => ((Kp.refl w6).alloc).cell d0
    clear c0
    go_wp2_with fail
    go_region_law (((with_reducible refine step_app (l := acc6) (m := [l[at_].1]) row_int u6 ?_ (.tmp 53) (.tmp 59) ?_ ?_ ?_ ?_ HM1.out HM2.out (Nat.le_trans HB6.out (KV.size (w := w6) (v := u6) ?_)) ?_); (with_reducible rfl); (with_reducible rfl); rfl; (exact OW.auto); (show RD _ _ (.slice (some ⟨_, 0, none⟩) 1 1) _; (exact RD.auto)); (go_split_ands; (focus ((repeat (first | (with_reducible first | assumption | exact KV.refl _ _ | apply KV.drew | apply KV.drewN | apply KV.alloc) | ((with_reducible apply KV.call); (with_reducible assumption)) | ((with_reducible apply KV.app); (with_reducible assumption)))); done))); intro v3 w3 ho3 hg3 hat3; obtain ⟨_, sc3, sf3, _⟩ := KS.out w3 (by go_split_ands; (focus ((repeat (first | (with_reducible first | assumption | exact KV.refl _ _ | apply KV.drew | apply KV.drewN | apply KV.alloc) | ((with_reducible apply KV.call); (with_reducible assumption)) | ((with_reducible apply KV.app); (with_reducible assumption)))); done))); obtain ⟨A3, N3, c3, rfl⟩ := ho3.rd.slice))
    all_goals
     have hat9 := hat3.imp id (fun e => show Hi w6.heap.size (Value.slice A3 N3 c3) from fun k hk => by rw [e] at hk; injection hk with hk; subst hk; simp <;> omega)
     obtain ⟨ho4, hk4⟩ := ob_app hb6 hu6 hn6 (show KV u6 w6 w3 by (focus ((repeat (first | (with_reducible first | assumption | exact KV.refl _ _ | apply KV.drew | apply KV.drewN | apply KV.alloc) | ((with_reducible apply KV.call); (with_reducible assumption)) | ((with_reducible apply KV.app); (with_reducible assumption)))); done))) ho3 hat9
     have HO7 := hide ho4
     have HK7 := hide (HK6.out.trans hk4)
     clear ho4 hk4 hat9 hat3 hg3 ho3 sc3 sf3 L1 L2 L3 L4 L5 L6 L7 L8 g0 f0
     go_wp2
     exact bodyPost_ret (v := .tuple #[]) (by simp [results, Tryz.results76, go_sem]) rfl ⟨rfl, by rw [HWL.out, HGK.out]; have h := HO7.out; rw [HACC.out] at h; simpa [List.append_assoc] using h, HK7.out⟩
  ·have hne : ((lo : Int) == (hi : Int)) = true := by simp; omega
   have H1 := hide (walkF_nil l last lo hi hlt)
   have HO := hide ho
   clear ho hr hvg ih
   go_enter Tryz.func76, Tryz.ntmps76
   go_wp2
   obtain ⟨u, hb, hu, hn⟩ := HO.out
   exact bodyPost_ret (v := .tuple #[]) (by simp [results, Tryz.results76, go_sem]) rfl ⟨rfl, by rw [H1.out, List.append_nil]; exact HO.out, KO.refl (hb.cell 0)⟩
def parOf (l : List IP) : List Int × Int := if mapRight l ≠ 0 then ([], mapRight l) else match ptR l 0 l.length 0 with | some t => (t.pars (-1), 0) | none => ([], 3)
theorem btw_t {n lo hi : Int} (h : lo <= n) (h2 : n <= hi) : btw n lo hi = true := (btw_iff _ _ _).2 ⟨h, h2⟩
theorem btw_f {n lo hi : Int} (h : n < lo ∨ hi < n) : btw n lo hi = false := (btw_f_iff _ _ _).2 (by omega)
theorem read_any (l : List IP) (v : Value) (w : World) (hr : RD w ePair v l) : Calls Tryz.prog 127 #[v] w (Ret2 eInt (parOf l) w) := by
 obtain ⟨A, c, rfl, hc, hm⟩ := hr.shape
 by_cases hlen : l.length > 200
 ·have hmr : mapRight l = 2 := by rw [mapRight, if_pos hlen]
  have H1 : Hid (parOf l = ([], 2)) := hide (by rw [parOf, hmr, if_pos (by decide)])
  clear hmr
  go_enter Tryz.func127, Tryz.ntmps127
  go_wp2
  go_ret2
  exact ⟨_, by rw [H1.out]; rfl, by rw [H1.out]; exact RD.nil, Below.refl _ _⟩
 ·have hres : Hid (mapRight l = mrFrom (-1) l) := hide (by simp [mapRight, hlen])
  have h3f : Hid (mrFrom (-1) l = 3 -> parOf l = ([], 3)) := hide (fun h => by rw [parOf, hres.out, h, if_pos (by decide)])
  obtain ⟨C, hC, hmk⟩ := run_mk row_int 0 zero_int l.length (by omega) (by simp [maxLen]; omega)
  have HR := hide hr
  clear hr
  go_enter Tryz.func127, Tryz.ntmps127
  go_wp2
  go_loopw [12] (CRel l w) (fun i wr => l.length - (intOf i).toNat)
  case atStart => exact ⟨0, -1, by omega, rfl, by omega, by omega, fun _ => rfl, fun _ h => by omega, rfl, Below.refl _ _⟩
  case round =>
   obtain ⟨k, last, hk, rfl, h1, h2, h3, h4, hmr, hbel⟩ := hrel
   have hmr' := hide hmr
   clear hmr
   have hz := hbel.size
   by_cases hlt : k < l.length
   ·obtain ⟨b, o, rfl, hb, c0, c1⟩ := (HR.out.below hbel).pair hlt
    have hd := mrFrom_drop l k hlt last
    have hkp : Kp w wr := hbel
    by_cases hlo : l[k].1 < 0
    ·rw [btw_f (.inl (by omega)), if_neg (by simp)] at hd
     have HP := hide (h3f.out (by rw [<- hmr'.out, hd]))
     clear hd h3 h4
     go_wp2_with fail
     go_quiet (fail)
     go_wp2
     go_ret2
     exact ⟨_, by rw [HP.out]; rfl, by rw [HP.out]; exact RD.nil, Kp.bel (by (exact Kp.auto))⟩
    ·by_cases hhi : 1000000 < l[k].1
     ·rw [btw_f (.inr hhi), if_neg (by simp)] at hd
      have HP := hide (h3f.out (by rw [<- hmr'.out, hd]))
      have hg3 : decide (l[k].1 < 0) = false := by simp; omega
      clear hd h3 h4 hlo
      go_wp2_with fail
      go_quiet (fail)
      go_wp2
      go_ret2
      exact ⟨_, by rw [HP.out]; rfl, by rw [HP.out]; exact RD.nil, Kp.bel (by (exact Kp.auto))⟩
     ·by_cases hk0 : k = 0
      ·have hl : last = -1 := h3 hk0
       rw [btw_t (by omega) (by omega), if_pos rfl] at hd
       have HD := hide hd
       have hg : decide (0 < k) = false := by simp; omega
       have hg2 : decide (1000000 < l[k].1) = false := by simp; omega
       have hg3 : decide (l[k].1 < 0) = false := by simp; omega
       have HL := hide hl
       have HK0 := hide hk0
       have HN : Hid (0 <= l[k].1) := hide (by omega)
       have HN2 : Hid (l[k].1 <= 1000000) := hide (by omega)
       clear hd h3 h4 hl hk0 hlo hhi
       go_wp2_with fail
       go_quiet (fail)
       go_wp2
       go_roundw
       case rel => exact ⟨k+1, l[k].1, by omega, by go_num, by have := HN.out; omega, HN2.out, fun h => by omega, fun _ _ => ⟨rfl, HN.out⟩, by rw [<- HD.out, hmr'.out], Kp.bel (by (exact Kp.auto))⟩
       case measure => simp [intOf]; omega
      ·have hkm : k - 1 < l.length := by omega
       obtain ⟨hl, hl0⟩ := h4 hkm (by omega)
       obtain ⟨b2, o2, e2, _, c2, _⟩ := (HR.out.below hbel).pair (k := k - 1) hkm
       injection e2 with e2
       injection e2 with e3 e4
       subst e3 e4
       have hg : decide (0 < k) = true := by simp; omega
       have hw1 : IntKind.i64.wrap ((k : Int) - 1) = (k : Int) - 1 := IntWalk.i64_in _ (by omega)
       have hw2 : (0 : Int) <= (k : Int) - 1 := by omega
       have hw3 : (k : Int) - 1 < (l.length : Int) := by omega
       have hw4 : ((k : Int) - 1).toNat = k - 1 := by omega
       have hg2 : decide (1000000 < l[k].1) = false := by simp; omega
       have hg3 : decide (l[k].1 < 0) = false := by simp; omega
       by_cases hge : l[k].1 <= l[k-1].1
       ·rw [btw_f (.inl (by omega)), if_neg (by simp)] at hd
        have HP := hide (h3f.out (by rw [<- hmr'.out, hd]))
        clear hd h3 h4 hl hk0 hlo hhi
        go_wp2_with fail
        go_quiet (fail)
        go_wp2
        go_ret2
        exact ⟨_, by rw [HP.out]; rfl, by rw [HP.out]; exact RD.nil, Kp.bel (by (exact Kp.auto))⟩
       ·rw [btw_t (by omega) (by omega), if_pos rfl] at hd
        have HD := hide hd
        have HL := hide hl
        have HN : Hid (0 <= l[k].1) := hide (by omega)
        have HN2 : Hid (l[k].1 <= 1000000) := hide (by omega)
        clear hd h3 h4 hl hk0 hlo hhi
        go_wp2_with fail
        go_quiet (fail)
        go_wp2
        go_roundw
        case rel => exact ⟨k+1, l[k].1, by omega, by go_num, by have := HN.out; omega, HN2.out, fun h => by omega, fun _ _ => ⟨rfl, HN.out⟩, by rw [<- HD.out, hmr'.out], Kp.bel (by (exact Kp.auto))⟩
        case measure => simp [intOf]; omega
   ·have hmr0 : mrFrom (-1) l = 0 := by rw [<- hmr'.out, mrFrom_end _ _ hlt]
    have hpo : parOf l = match ptR l 0 l.length 0 with | some t => (t.pars (-1), 0) | none => ([], 3) := by rw [parOf, hres.out, hmr0]; simp
    have hkp : Kp w wr := hbel
    have hkl : k = l.length := by omega
    have HKL := hide hkl
    have HPO := hide hpo
    clear hmr0 hpo hmr' h3 h4 hkl
    have HRL : Hid ((List.replicate l.length (0 : Int)).length = l.length) := hide (by simp)
    have HCP := hide (fun r (hres : (ptR l 0 l.length 0).isSome = r) (h : AR (wr.alloc (.cells C 3)) wr.heap.size 3 eInt (List.replicate l.length (0 : Int))) (hx : 0 < l.length -> (Value.slice A l.length c).ownBlock ≠ some wr.heap.size) =>
     parents_any l (.slice A l.length c) wr.heap.size (by omega) hx 1000 0 l.length (-1) 0 (List.replicate l.length 0) r (wr.alloc (.cells C 3)) (by omega) (by omega) (by omega) (by omega) (by omega) ((HR.out.kp hkp).alloc _) h HRL.out hres)
    rw [HRL.out] at HCP
    simp only [Int.natCast_zero] at HCP
    have hx : Hid (0 < l.length -> (Value.slice A l.length c).ownBlock ≠ some wr.heap.size) := hide (fun h0 => by
     obtain ⟨b, o, e, hb, _⟩ := (HR.out.kp hkp).pair h0
     subst e
     intro e
     injection e with e
     simp at e
     omega)
    cases hpt : ptR l 0 l.length 0 with
    | none =>
     have HP : Hid (parOf l = ([], 3)) := hide (by rw [HPO.out, hpt])
     have HPT := hide hpt
     clear hpt
     go_wp2_with fail
     refine (HCP.out false (by rw [HPT.out]; rfl) (AR.made hC) hx.out).mono ?_
     rintro e w2 ⟨out1, rfl, ha1, hl1, hk1, hs1, ht1⟩
     have HA1 := hide ha1
     clear ha1 hl1 hs1 ht1
     go_wp2
     go_ret2
     exact ⟨_, by rw [HP.out]; rfl, by rw [HP.out]; exact RD.nil, (hk1.kp (Kp.alloc hkp) hkp.size).bel⟩
    | some t =>
     have HP : Hid (parOf l = (t.pars (-1), 0)) := hide (by rw [HPO.out, hpt])
     have hsz := ptR_size l 0 l.length 0 t (by omega) hpt
     have HPT := hide hpt
     clear hpt
     go_wp2_with fail
     refine (HCP.out true (by rw [HPT.out]; rfl) (AR.made hC) hx.out).mono ?_
     rintro e w2 ⟨out1, rfl, ha1, hl1, hk1, hs1, ht1⟩
     have he : out1 = t.pars (-1) := by
      have h9 := PT.pars_len t (-1)
      have h10 := HRL.out
      refine List.ext_getElem? fun j => ?_
      by_cases hj : j < l.length
      ·have := ht1 t HPT.out j (by omega)
       rwa [Nat.zero_add] at this
      ·rw [List.getElem?_eq_none (by omega), List.getElem?_eq_none (by omega)]
     subst he
     have HA1 := hide ha1
     clear ha1 hs1 ht1
     have HL1 : Hid ((t.pars (-1)).length = l.length) := hide (by rw [hl1, HRL.out])
     clear hl1
     go_wp2
     go_ret2
     refine ⟨_, by rw [HP.out]; rfl, ?_, (hk1.kp (Kp.alloc hkp) hkp.size).bel⟩
     rw [HP.out, <- HL1.out]
     exact HA1.out.rd (by rw [HL1.out]; unfold maxLen; omega)
end Go.Proofs.YtcljlnagpjilaaaGreatDoor
