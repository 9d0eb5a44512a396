/-
  shape.Turn: what it answers. Conditions: the list reads as l (RD).
-/
import Derived.Test.YtcpponjknmkfaaaTurn
import Derived.Test.YtcpponjknmkfaaaSetVal
namespace Go.Proofs.Ytcpponjknmkfaaa
open Go.ChangeShapes Go.WideShapes Go.ChangeAt Go.RowKit
set_option linter.unusedVariables false
set_option linter.unusedSimpArgs false

/-- Is the node among those from x on up? -/
def upIn (U : List Int) : Nat → Int → Nat → Bool
  | 0, _, _ => false
  | f + 1, x, node => if x < 0 then false else if x = node then true else upIn U f (U.getD x.toNat (-1)) node
theorem upIn_chain {U : List Int} {x : Int} {s : List Nat} (h : Chain U x s) (node : Nat) : ∀ f, s.length ≤ f → upIn U f x node = decide (node ∈ s) := by
  induction h with
  | nil =>
    intro f _
    cases f with
    | zero => simp [upIn]
    | succ f => simp [upIn]
  | cons a s ha hc ih =>
    intro f hf
    cases f with
    | zero => simp at hf
    | succ f =>
      simp only [List.length_cons] at hf
      rw [upIn, if_neg (by omega)]
      by_cases he : a = node
      · rw [if_pos (by omega)]; simp [he]
      · rw [if_neg (by omega), Int.toNat_natCast]
        have : U.getD a (-1) = U[a] := by simp [List.getD_eq_getElem?_getD, List.getElem?_eq_getElem ha]
        rw [this, ih f (by omega)]
        simp [show ¬ node = a from fun h => he h.symm]
def inU (U : List Int) (k node : Nat) : Bool := upIn U (U.length + 1) k node
theorem inU_chain {U : List Int} {k : Nat} {s : List Nat} (h : Chain U k s) (hs : s.length ≤ U.length + 1) (node : Nat) : inU U k node = decide (node ∈ s) := upIn_chain h node _ hs
def turnD (U : List Int) (at_ p k : Nat) (d : Int) : Int :=
  if k = at_ then d - 1 else if k = p then d + 1 else if inU U k at_ = true ∧ decide (k < at_) = decide (at_ < p) then d - 1 else if inU U k at_ = false ∧ inU U k p = true then d + 1 else d
def turnL (l : List IP) (U : List Int) (at_ p : Nat) : List IP := (List.range l.length).map fun k => (gk l k, turnD U at_ p k (gv l k))
def turnOf (l : List IP) (key : Int) : List IP × Int :=
  if (parOf l).2 ≠ 0 then ([], (parOf l).2)
  else if idxOf l key = -1 ∨ (parOf l).1.getD (idxOf l key).toNat (-1) = -1 then ([], 4)
  else (turnL l (parOf l).1 (idxOf l key).toNat ((parOf l).1.getD (idxOf l key).toNat (-1)).toNat, 0)
theorem turnL_len (l : List IP) (U : List Int) (a p : Nat) : (turnL l U a p).length = l.length := by simp [turnL]
theorem turnL_at (l : List IP) (U : List Int) (a p k : Nat) (h : k < l.length) : (turnL l U a p)[k]'(by rw [turnL_len]; exact h) = (l[k].1, turnD U a p k l[k].2) := by
  simp [turnL, gk_eq l k h, gv_eq l k h]

def BwRel (U : List Int) (s : List Nat) (node : Nat) (w : World) (kv : Value) (wr : World) : Prop := ∃ x s', kv = .int .i64 x ∧ Chain U x s' ∧ decide (node ∈ s') = decide (node ∈ s) ∧ s'.length ≤ U.length + 1 ∧ w = wr
def SameW (v : Value) (w : World) (e : Ending) (w' : World) : Prop := e = .returned v ∧ w = w'
set_option maxHeartbeats 2000000 in
theorem below_any (U : List Int) (a : Nat) (A : Option Addr) (c : Nat) (w : World) (hc : w.cell? ⟨a, 0, none⟩ = some (.slice A U.length c)) (hr : RD w eInt (.slice A U.length c) U) (k : Int) (node : Nat) (s : List Nat) (hch : Chain U k s) (hs : s.length ≤ U.length + 1) (hn : U.length ≤ 1000) (hnn : node ≤ 1000) :
    Calls Try.prog 42 #[.int .i64 k, .int .i64 (node : Int), .pointer (some ⟨a, 0, none⟩)] w (SameW (.bool (decide (node ∈ s))) w) := by
  have HR := hide hr
  have HC := hide hch
  clear hr hch
  go_enter Try.func42, Try.ntmps42
  go_wp2
  go_loopw [0] (BwRel U s node w) (fun i _ => upN U (U.length + 1) (intOf i))
  case atStart => exact ⟨k, s, rfl, HC.out, rfl, hs, rfl⟩
  case round =>
    obtain ⟨x, s', rfl, hx, hd, hsl, rfl⟩ := hrel
    have HD := hide hd
    have HX := hide hx
    clear hd
    cases hx with
    | nil =>
      have H1 : Hid (decide (node ∈ s) = false) := hide (by rw [← HD.out]; simp)
      have d1 : ((-1 : Int) == (node : Int)) = false := by rw [beq_eq_false_iff_ne]; omega
      go_wp2
      go_ret
      exact ⟨by rw [H1.out]; rfl, rfl⟩
    | cons b s2 hb hch2 =>
      have dm : ((b : Int) != -1) = true := by rw [bne_iff_ne]; omega
      by_cases he : b = node
      · subst he
        have H1 : Hid (decide (b ∈ s) = true) := hide (by rw [← HD.out]; simp)
        have d1 : ((b : Int) != (b : Int)) = false := by simp
        have d2 : ((b : Int) == (b : Int)) = true := by simp
        clear hch2
        go_wp2
        go_ret
        exact ⟨by rw [H1.out]; rfl, rfl⟩
      · have d1 : ((b : Int) != (node : Int)) = true := by rw [bne_iff_ne]; omega
        have d2 : ((b : Int) == (node : Int)) = false := by rw [beq_eq_false_iff_ne]; omega
        obtain ⟨b', o', rfl, _, c0⟩ := HR.out.int hb
        have bb : (b : Int) < (U.length : Int) := by omega
        have H2 : Hid (decide (node ∈ s2) = decide (node ∈ s)) := hide (by rw [← HD.out]; simp [show ¬ node = b from fun h => he h.symm])
        have HX2 := hide hch2
        have hm1 : Hid (upN U (U.length + 1) (b : Int) = s2.length + 1) := hide (by have := HX.out.upN (U.length + 1) hsl; simpa using this)
        have hm2 : Hid (upN U (U.length + 1) U[b] = s2.length) := hide (HX2.out.upN (U.length + 1) (by simp at hsl; omega))
        simp only [List.length_cons] at hsl
        clear he hch2
        go_wp2
        go_roundw
        case rel => exact ⟨_, s2, rfl, HX2.out, H2.out, by omega, rfl⟩
        case measure =>
          show upN U (U.length + 1) (intOf (.int .i64 U[b])) < upN U (U.length + 1) (intOf (.int .i64 (b : Int)))
          simp only [intOf]
          rw [hm1.out, hm2.out]; omega
theorem turn_cur {l R : List IP} (hR : R.length = l.length) (k : Nat) (h : k < l.length) : (R.take k ++ l.drop k).length = l.length ∧ ∀ h', (R.take k ++ l.drop k)[k]'h' = l[k] := by
  refine ⟨by simp; omega, fun h' => ?_⟩
  rw [List.getElem_append_right (by simp; omega)]
  simp [show min k R.length = k from by omega]
theorem turn_set {l R : List IP} (hR : R.length = l.length) (k : Nat) (h : k < l.length) (x : IP) (he : R[k]'(by omega) = x) : (R.take k ++ l.drop k).set k x = R.take (k + 1) ++ l.drop (k + 1) := by
  rw [List.set_append_right _ _ (by simp; omega)]
  rw [show k - (R.take k).length = 0 from by simp; omega, List.drop_eq_getElem_cons h, List.set_cons_zero, List.take_succ_eq_append_getElem (by omega), he]
  simp
theorem turn_keep {l R : List IP} (hR : R.length = l.length) (k : Nat) (h : k < l.length) (he : R[k]'(by omega) = l[k]) : R.take k ++ l.drop k = R.take (k + 1) ++ l.drop (k + 1) := by
  rw [List.drop_eq_getElem_cons h, List.take_succ_eq_append_getElem (by omega), he]
  simp
def TuRel (l R : List IP) (W2 : World) (ov : Value) (iv : Value) (wr : World) : Prop := ∃ k : Nat, k ≤ l.length ∧ iv = .int .i64 k ∧ OW wr W2.heap.size 41 ePair ov (R.take k ++ l.drop k) ∧ Kp W2 wr

set_option maxRecDepth 100000 in
set_option maxHeartbeats 16000000 in
theorem turn_any (l : List IP) (key : Int) (v : Value) (w : World) (hr : RD w ePair v l) : Calls Try.prog 25 #[v, .int .i64 key] w (Ret2 ePair (turnOf l key) w) := by
  obtain ⟨A, c, rfl, hc, hm⟩ := hr.shape
  have HR := hide hr
  have HRD := hide (fun W v h => read_any l v W h)
  clear hr
  by_cases h0 : (parOf l).2 = 0
  · obtain ⟨hlen, _, t, ht, hpe⟩ := parOf_len l h0
    obtain ⟨hAt, hts, _⟩ := ptR_to l 0 l.length 0 t (by omega) ht
    have hUl := PT.pars_len t (-1)
    have hto : turnOf l key = if idxOf l key = -1 ∨ (parOf l).1.getD (idxOf l key).toNat (-1) = -1 then ([], 4) else (turnL l (parOf l).1 (idxOf l key).toNat ((parOf l).1.getD (idxOf l key).toNat (-1)).toNat, 0) := by rw [turnOf, if_neg (by simp [h0])]
    have HGB := hide (gv_bound l h0)
    have HAL := hide (PT.anc_len t)
    rw [hpe] at HRD hto
    obtain ⟨U, hU⟩ : ∃ U, U = t.pars (-1) := ⟨_, rfl⟩
    simp only [← hU] at HRD hto hUl
    have HIX := hide (fun a W h hc => idxTurn_any l (.slice A l.length c) key a W h hc)
    have hul : U.length = l.length := by omega
    have HCH : Hid (∀ k (hk : k < U.length), Chain U U[k] (t.anc k)) := hide (by
      subst hU
      exact fun k hk => PT.chain0 t hAt k (by rw [← hUl]; exact hk))
    have HUL := hide hul
    have HTS : Hid (t.size = l.length) := hide (by omega)
    clear h0 hpe ht hU hUl hts
    rcases idxOf_cases l key with hi | ⟨at_, hat, hi, hkey⟩
    · have H1 : Hid (turnOf l key = ([], 4)) := hide (by rw [hto, if_pos (.inl hi)])
      rw [hi] at HIX
      clear hto hi hul
      go_enter Try.func25, Try.ntmps25
      go_wp2_with fail
      with_reducible refine (HRD.out _ _ (HR.out.alloc _)).mono ?_
      rintro e w1 ⟨v1, rfl, hr1, hb1⟩
      have k1 : Kp w w1 := (Kp.refl w).alloc.trans hb1
      have kc := (Kp.of hb1).cell (p := ⟨w.heap.size, 0, none⟩) (u := .int .i64 key) (by simp [go_sem])
      obtain ⟨A1, c1, rfl, hc1, hm1⟩ := hr1.shape
      replace kc := ((Kp.refl w1).alloc (o := .cells #[.slice A1 U.length c1] 23)).cell kc
      have kb : (w1.alloc (.cells #[.slice A1 U.length c1] 23)).cell? ⟨w1.heap.size, 0, none⟩ = some (.slice A1 U.length c1) := by simp [go_sem]
      have HU1 := hide (hr1.alloc (.cells #[.slice A1 U.length c1] 23))
      have KA : Hid (Kp w (w1.alloc (.cells #[.slice A1 U.length c1] 23))) := hide k1.alloc
      clear hr1 hb1 k1
      go_wp2_with fail
      with_reducible refine (HIX.out _ _ (HR.out.kp KA.out) kc).mono ?_
      rintro e w2 ⟨rfl, hb2⟩
      go_wp2
      go_ret2
      exact ⟨_, by rw [H1.out]; rfl, by rw [H1.out]; exact RD.nil, (KA.out.trans hb2).bel⟩
    · rw [hi] at HIX
      have hatU : at_ < U.length := by rw [hul]; exact hat
      have hup : U.getD (idxOf l key).toNat (-1) = U[at_] := by rw [hi, Int.toNat_natCast]; simp [List.getD_eq_getElem?_getD, List.getElem?_eq_getElem hatU]
      rw [hup] at hto
      have da : ((at_ : Int) == -1) = false := by rw [beq_eq_false_iff_ne]; omega
      have hcx := HCH.out at_ hatU
      obtain ⟨up, hupe⟩ : ∃ up, up = U[at_] := ⟨_, rfl⟩
      rw [← hupe] at hto hcx
      have hge := hcx.ge
      by_cases hp1 : up = -1
      · subst hp1
        have H1 : Hid (turnOf l key = ([], 4)) := hide (by rw [hto, if_pos (.inr rfl)])
        have HUP := hide hupe
        clear hto hi hcx hup hupe hul hkey
        go_enter Try.func25, Try.ntmps25
        go_wp2_with fail
        with_reducible refine (HRD.out _ _ (HR.out.alloc _)).mono ?_
        rintro e w1 ⟨v1, rfl, hr1, hb1⟩
        have k1 : Kp w w1 := (Kp.refl w).alloc.trans hb1
        have kc := (Kp.of hb1).cell (p := ⟨w.heap.size, 0, none⟩) (u := .int .i64 key) (by simp [go_sem])
        obtain ⟨A1, c1, rfl, hc1, hm1⟩ := hr1.shape
        replace kc := ((Kp.refl w1).alloc (o := .cells #[.slice A1 U.length c1] 23)).cell kc
        have kb : (w1.alloc (.cells #[.slice A1 U.length c1] 23)).cell? ⟨w1.heap.size, 0, none⟩ = some (.slice A1 U.length c1) := by simp [go_sem]
        have HU1 := hide (hr1.alloc (.cells #[.slice A1 U.length c1] 23))
        have KA : Hid (Kp w (w1.alloc (.cells #[.slice A1 U.length c1] 23))) := hide k1.alloc
        clear hr1 hb1 k1
        go_wp2_with fail
        with_reducible refine (HIX.out _ _ (HR.out.kp KA.out) kc).mono ?_
        rintro e w2 ⟨rfl, hb2⟩
        have kk2 := Kp.of hb2
        have kb2 := kk2.cell kb
        have HU2 := hide (HU1.out.kp kk2)
        obtain ⟨bu, ou, rfl, _, u0⟩ := HU2.out.int (k := at_) hatU
        rw [← HUP.out] at u0
        have bat : (at_ : Int) < (U.length : Int) := by omega
        go_wp2
        go_ret2
        exact ⟨_, by rw [H1.out]; rfl, by rw [H1.out]; exact RD.nil, (KA.out.trans hb2).bel⟩
      · obtain ⟨p, rfl⟩ : ∃ p : Nat, up = p := ⟨up.toNat, by omega⟩
        have hpl : p < U.length := by obtain ⟨_, h, _⟩ := hcx.at_; exact h
        have H1 : Hid (turnOf l key = (turnL l U at_ p, 0)) := hide (by rw [hto, if_neg (by omega), hi]; simp)
        have HUP := hide hupe
        have hRl := turnL_len l U at_ p
        have HRA := hide (fun k h => turnL_at l U at_ p k h)
        obtain ⟨R, hR⟩ : ∃ R, R = turnL l U at_ p := ⟨_, rfl⟩
        rw [← hR] at H1 hRl
        have HRA2 : Hid (∀ k (h : k < l.length) (h' : k < R.length), R[k]'h' = (l[k].1, turnD U at_ p k l[k].2)) := hide (fun k h h' => by simp only [hR]; exact HRA.out k h)
        have dp : ((p : Int) == -1) = false := by rw [beq_eq_false_iff_ne]; omega
        have HRL := hide hRl
        have HATL := hide hat
        have hpl2 : p < l.length := by rw [← hul]; exact hpl
        clear hto hi hcx hup hupe hge hp1 HRA hR hRl hul hkey
        go_enter Try.func25, Try.ntmps25
        go_wp2_with fail
        with_reducible refine (HRD.out _ _ (HR.out.alloc _)).mono ?_
        rintro e w1 ⟨v1, rfl, hr1, hb1⟩
        have k1 : Kp w w1 := (Kp.refl w).alloc.trans hb1
        have kc := (Kp.of hb1).cell (p := ⟨w.heap.size, 0, none⟩) (u := .int .i64 key) (by simp [go_sem])
        obtain ⟨A1, c1, rfl, hc1, hm1⟩ := hr1.shape
        replace kc := ((Kp.refl w1).alloc (o := .cells #[.slice A1 U.length c1] 23)).cell kc
        have kb : (w1.alloc (.cells #[.slice A1 U.length c1] 23)).cell? ⟨w1.heap.size, 0, none⟩ = some (.slice A1 U.length c1) := by simp [go_sem]
        have HU1 := hide (hr1.alloc (.cells #[.slice A1 U.length c1] 23))
        have KA : Hid (Kp w (w1.alloc (.cells #[.slice A1 U.length c1] 23))) := hide k1.alloc
        clear hr1 hb1 k1
        go_wp2_with fail
        with_reducible refine (HIX.out _ _ (HR.out.kp KA.out) kc).mono ?_
        rintro e w2 ⟨rfl, hb2⟩
        have kk2 := Kp.of hb2
        have kb2 := kk2.cell kb
        have HU2 := hide (HU1.out.kp kk2)
        obtain ⟨bu, ou, rfl, _, u0⟩ := HU2.out.int (k := at_) hatU
        rw [← HUP.out] at u0
        have bat : (at_ : Int) < (U.length : Int) := by omega
        go_wp2_with fail
        have KB2 := hide (KA.out.trans kk2)
        with_reducible refine (cloneSpots_any l _ _ (HR.out.kp KB2.out) (by omega)).mono ?_
        rintro e w3 ⟨v3, rfl, ho3, hb3⟩
        obtain ⟨g, c3, rfl, hg, hg3, hc3, hm3⟩ := ho3.shape (by omega)
        have HB : Hid (∀ (node k : Nat) (hk : k < l.length) (hn : node ≤ 1000) (b : Bool) (hb : inU U k node = b) W, Kp w2 W → Calls Try.prog 42 #[.int .i64 (k : Int), .int .i64 (node : Int), .pointer (some ⟨w1.heap.size, 0, none⟩)] W (SameW (.bool b) W)) := hide (fun node k hk hn b hb W h => by
          subst hb
          have hkU : k < U.length := by rw [HUL.out]; exact hk
          have hcc := Chain.cons k (t.anc k) hkU (HCH.out k hkU)
          have hsl : (k :: t.anc k).length ≤ U.length + 1 := by have h1 := HAL.out k; have h2 := HTS.out; have h3 := HUL.out; simp only [List.length_cons]; omega
          rw [inU_chain hcc hsl node]
          exact below_any U w1.heap.size (some ⟨bu, ou, none⟩) c1 W (h.cell kb2) (HU2.out.kp h) k node _ hcc hsl (by have h3 := HUL.out; omega) hn)
        have HO3 := hide ho3
        have kk3 := Kp.of hb3
        have HK3 := hide kk3
        clear ho3 hb3 kb2 kk2 hb2 u0 kc kb
        go_wp2
        go_loopw [43] (TuRel l R w2 (.slice (some ⟨g, 0, none⟩) l.length c3)) (fun i _ => l.length - (intOf i).toNat)
        case atStart => exact ⟨0, by omega, rfl, by simpa using HO3.out, HK3.out⟩
        case round =>
          obtain ⟨k, hk, rfl, ho, hkp⟩ := hrel
          by_cases hlt : k < l.length
          · obtain ⟨hcl, hcu⟩ := turn_cur HRL.out k hlt
            obtain ⟨q1, q2⟩ := ho.cellPair k (by omega)
            rw [hcu] at q1
            obtain ⟨g1, g2⟩ := HGB.out k hlt
            have hra := HRA2.out k hlt (by rw [HRL.out]; exact hlt)
            have HSV : Hid (∀ x, R[k]'(by rw [HRL.out]; exact hlt) = (l[k].1, x) → OW (wr.setCell ⟨g, k * 2 + 1, none⟩ (.int .i64 x)) w2.heap.size 41 ePair (.slice (some ⟨g, 0, none⟩) l.length c3) (R.take (k + 1) ++ l.drop (k + 1))) := hide (fun x hx => by
              rw [← turn_set HRL.out k hlt _ hx]
              have h9 := ho.setVal k (by omega) x
              rw [hcu] at h9
              exact h9)
            have HSK : Hid (R[k]'(by rw [HRL.out]; exact hlt) = l[k] → OW wr w2.heap.size 41 ePair (.slice (some ⟨g, 0, none⟩) l.length c3) (R.take (k + 1) ++ l.drop (k + 1))) := hide (fun hx => by
              rw [← turn_keep HRL.out k hlt hx]; exact ho)
            have HA := hide (fun b hb => HB.out at_ k hlt (by omega) b hb wr hkp)
            have HP := hide (fun b hb => HB.out p k hlt (by omega) b hb wr hkp)
            obtain ⟨d, hd⟩ : ∃ d, d = l[k].2 := ⟨_, rfl⟩
            rw [← hd] at q1 g1 g2 hra
            have HDD := hide hd
            obtain ⟨ba, hba⟩ : ∃ b, b = inU U k at_ := ⟨_, rfl⟩
            obtain ⟨bp, hbp⟩ : ∃ b, b = inU U k p := ⟨_, rfl⟩
            replace HA := hide (HA.out ba hba.symm)
            replace HP := hide (HP.out bp hbp.symm)
            have htd : turnD U at_ p k d = if k = at_ then d - 1 else if k = p then d + 1 else if ba = true ∧ decide (k < at_) = decide (at_ < p) then d - 1 else if ba = false ∧ bp = true then d + 1 else d := by rw [hba, hbp]; rfl
            have HW1 : IntKind.i64.wrap (d - 1) = d - 1 := IntWalk.i64_in _ (by omega)
            have HW2 : IntKind.i64.wrap (d + 1) = d + 1 := IntWalk.i64_in _ (by omega)
            have hgk : g * 1 = g := by omega
            have bk2 : (k : Int) < (l.length : Int) := by omega
            rw [htd] at hra
            clear hd hba hbp htd ho hcl hcu hgk
            by_cases ka : k = at_
            · rw [if_pos ka] at hra
              have HX := hide (HSV.out _ hra)
              have d1 : ((k : Int) == (at_ : Int)) = true := by simp [ka]
              have d1' : (k == at_) = true := by simp [ka]
              clear hra ka
              go_wp2_with (go_at_call 42; ((with_reducible refine (HA.out).mono ?_); rintro e w5 ⟨rfl, rfl⟩))
              go_roundw
              case rel => exact ⟨k + 1, by omega, by go_num, HX.out, Kp.setR (by simp; omega) hkp⟩
              case measure => simp [intOf]; omega
            · rw [if_neg ka] at hra
              have d1 : ((k : Int) == (at_ : Int)) = false := by rw [beq_eq_false_iff_ne]; omega
              have d1' : (k == at_) = false := by rw [beq_eq_false_iff_ne]; omega
              by_cases kp : k = p
              · rw [if_pos kp] at hra
                have HX := hide (HSV.out _ hra)
                have d2 : ((k : Int) == (p : Int)) = true := by simp [kp]
                clear hra ka kp
                go_wp2_with (go_at_call 42; ((with_reducible refine (HA.out).mono ?_); rintro e w5 ⟨rfl, rfl⟩))
                go_roundw
                case rel => exact ⟨k + 1, by omega, by go_num, HX.out, Kp.setR (by simp; omega) hkp⟩
                case measure => simp [intOf]; omega
              · rw [if_neg kp] at hra
                have d2 : ((k : Int) == (p : Int)) = false := by rw [beq_eq_false_iff_ne]; omega
                clear ka kp
                cases ba with
                | true =>
                  rw [if_neg (show ¬ (true = false ∧ bp = true) by simp)] at hra
                  by_cases ja : k < at_
                  · have d3 : decide (k < at_) = true := by simp [ja]
                    by_cases jp : at_ < p
                    · have d4 : decide (at_ < p) = true := by simp [jp]
                      rw [if_pos ⟨rfl, by rw [d3, d4]⟩] at hra
                      have HX := hide (HSV.out _ hra)
                      clear hra
                      go_wp2_with (go_at_call 42; ((with_reducible refine (HA.out).mono ?_); rintro e w5 ⟨rfl, rfl⟩))
                      go_roundw
                      case rel => exact ⟨k + 1, by omega, by go_num, HX.out, Kp.setR (by simp; omega) hkp⟩
                      case measure => simp [intOf]; omega
                    · have d4 : decide (at_ < p) = false := by simp; omega
                      rw [if_neg (by rw [d3, d4]; simp)] at hra
                      have HX := hide (HSK.out (by rw [hra, HDD.out]))
                      clear hra
                      go_wp2_with (go_at_call 42; ((with_reducible refine (HA.out).mono ?_); rintro e w5 ⟨rfl, rfl⟩))
                      go_roundw
                      case rel => exact ⟨k + 1, by omega, by go_num, HX.out, hkp⟩
                      case measure => simp [intOf]; omega
                  · have d3 : decide (k < at_) = false := by simp; omega
                    by_cases jp : at_ < p
                    · have d4 : decide (at_ < p) = true := by simp [jp]
                      rw [if_neg (by rw [d3, d4]; simp)] at hra
                      have HX := hide (HSK.out (by rw [hra, HDD.out]))
                      clear hra
                      go_wp2_with (go_at_call 42; ((with_reducible refine (HA.out).mono ?_); rintro e w5 ⟨rfl, rfl⟩))
                      go_roundw
                      case rel => exact ⟨k + 1, by omega, by go_num, HX.out, hkp⟩
                      case measure => simp [intOf]; omega
                    · have d4 : decide (at_ < p) = false := by simp; omega
                      rw [if_pos ⟨rfl, by rw [d3, d4]⟩] at hra
                      have HX := hide (HSV.out _ hra)
                      clear hra
                      go_wp2_with (go_at_call 42; ((with_reducible refine (HA.out).mono ?_); rintro e w5 ⟨rfl, rfl⟩))
                      go_roundw
                      case rel => exact ⟨k + 1, by omega, by go_num, HX.out, Kp.setR (by simp; omega) hkp⟩
                      case measure => simp [intOf]; omega
                | false =>
                  rw [if_neg (show ¬ (false = true ∧ decide (k < at_) = decide (at_ < p)) by simp)] at hra
                  cases bp with
                  | true =>
                    rw [if_pos ⟨rfl, rfl⟩] at hra
                    have HX := hide (HSV.out _ hra)
                    clear hra
                    go_wp2_with (first | (go_at_call 42; ((with_reducible refine (HA.out).mono ?_); rintro e w5 ⟨rfl, rfl⟩)) | (go_at_call 42; ((with_reducible refine (HP.out).mono ?_); rintro e w5 ⟨rfl, rfl⟩)))
                    go_roundw
                    case rel => exact ⟨k + 1, by omega, by go_num, HX.out, Kp.setR (by simp; omega) hkp⟩
                    case measure => simp [intOf]; omega
                  | false =>
                    rw [if_neg (by simp)] at hra
                    have HX := hide (HSK.out (by rw [hra, HDD.out]))
                    clear hra
                    go_wp2_with (first | (go_at_call 42; ((with_reducible refine (HA.out).mono ?_); rintro e w5 ⟨rfl, rfl⟩)) | (go_at_call 42; ((with_reducible refine (HP.out).mono ?_); rintro e w5 ⟨rfl, rfl⟩)))
                    go_roundw
                    case rel => exact ⟨k + 1, by omega, by go_num, HX.out, hkp⟩
                    case measure => simp [intOf]; omega
          · have hkl : Hid (R.take k ++ l.drop k = R) := hide (by rw [List.take_of_length_le (by rw [HRL.out]; omega), List.drop_of_length_le (by omega), List.append_nil])
            have HOO := hide ho.rd
            clear ho
            go_wp2
            go_ret2
            exact ⟨_, by rw [H1.out]; rfl, by rw [H1.out, ← hkl.out]; exact HOO.out, (KB2.out.trans hkp).bel⟩
  · have H1 : Hid (turnOf l key = ([], (parOf l).2)) := hide (by rw [turnOf, if_pos h0])
    obtain ⟨P, hP⟩ : ∃ P, P = parOf l := ⟨_, rfl⟩
    rw [← hP] at HRD H1 h0
    obtain ⟨U, r⟩ := P
    simp only at h0 H1
    have hne : (r != 0) = true := by simp [h0]
    clear h0 hP
    go_enter Try.func25, Try.ntmps25
    go_wp2_with fail
    with_reducible refine (HRD.out _ _ (HR.out.alloc _)).mono ?_
    rintro e w1 ⟨v1, rfl, hr1, hb1⟩
    have k1 : Kp w w1 := (Kp.refl w).alloc.trans hb1
    obtain ⟨A1, c1, rfl, _, _⟩ := hr1.shape
    clear hr1
    go_wp2
    go_ret2
    exact ⟨_, by rw [H1.out]; rfl, by rw [H1.out]; exact RD.nil, k1.alloc.bel⟩
end Go.Proofs.Ytcpponjknmkfaaa
