/-
  hedgkeep.SkipNested: the walk: it answers true. Conditions: the keys read as ints (RD); the table of math/bits holds what it is laid with (DTb).
  hedgkeep.SkipNested: THE STATEMENT: for every input it answers true. Conditions: the table of math/bits holds what the program's text lays (tied on the card).
-/
import Derived.Test.YtfojphaemfbfnaaDoorG25
import Derived.Test.YtfojphaemfbfnaaDoorG2
import Derived.Test.YtfojphaemfbfnaaDoorCards
import Derived.Test.YtfojphaemfbfnaaDoorTie
import Derived.SevenTiedAt

namespace Go.Proofs.YtfojphaemfbfnaaDoor
open Go.ChangeShapes Go.WideShapes Go.ChangeAt Go.RowKit
set_option linter.unusedVariables false
set_option linter.unusedSimpArgs false

def belowOf (ks : List Int) : Nat → List Int
  | 0 => ks
  | r + 1 => rowK ks r
theorem rowH_filter (H : Int → Int) (ks : List Int) (r : Nat) : ∃ p : Int → Bool, rowH H ks (r + 1) = (rowH H ks r).filter p := by
  refine ⟨fun k => decide (((r + 1 : Nat) : Int) < H k), ?_⟩
  unfold rowH
  rw [List.filter_filter]
  apply List.filter_congr
  intro k _
  by_cases e : ((r + 1 : Nat) : Int) < H k
  · have : (r : Int) < H k := by omega
    rw [decide_eq_true e, decide_eq_true this]; rfl
  · rw [decide_eq_false e]; rfl
theorem below_filter (ks : List Int) : ∀ i, ∃ p : Int → Bool, rowK ks i = (belowOf ks i).filter p
  | 0 => ⟨fun _ => true, by rw [rowK_0]; exact (List.filter_eq_self.2 fun _ _ => rfl).symm⟩
  | r + 1 => rowH_filter hgtF ks r
theorem filt_at {l : List Int} {p : Int → Bool} {j : Nat} (h : j < l.length) (hp : p l[j] = true) : ∃ h2 : ((l.take j).filter p).length < (l.filter p).length, (l.filter p)[((l.take j).filter p).length] = l[j] := by
  have e : l.filter p = (l.take j).filter p ++ l[j] :: (l.drop (j + 1)).filter p := by
    rw [← List.filter_cons_of_pos hp, ← List.drop_eq_getElem_cons h, ← List.filter_append, List.take_append_drop]
  refine ⟨by rw [e]; simp, ?_⟩
  simp only [e]
  rw [List.getElem_append_right (by simp)]
  simp
theorem filt_take {l : List Int} {p : Int → Bool} {j : Nat} (h : j < l.length) : ((l.take (j + 1)).filter p).length = ((l.take j).filter p).length + if p l[j] then 1 else 0 := by
  rw [List.take_succ_eq_append_getElem h, List.filter_append, List.length_append]
  congr 1
  cases e : p l[j] <;> simp [e]
theorem filt_ne {l : List Int} {p : Int → Bool} {y : Int} (hp : p y = false) {k : Nat} (hk : k < (l.filter p).length) : (l.filter p)[k] ≠ y := fun e => by
  have h1 := List.getElem_mem hk
  rw [List.mem_filter] at h1
  rw [e, hp] at h1
  cases h1.2
def SneRel (ks : List Int) (R : Nat) (W : World) (bv iv : Value) (wr : World) : Prop := ∃ i : Nat, i ≤ R ∧ iv = .int .i64 (i : Int) ∧ RD W eInt bv (belowOf ks i) ∧ W = wr
def SniRel (bl : List Int) (p : Int → Bool) (W : World) (kv jv : Value) (wr : World) : Prop := ∃ j : Nat, j ≤ bl.length ∧ jv = .int .i64 (j : Int) ∧ kv = .int .i64 ((((bl.take j).filter p).length : Nat) : Int) ∧ W = wr
set_option maxRecDepth 100000 in
set_option maxHeartbeats 8000000 in
theorem skipNested_walk (ks : List Int) (v : Value) (w : World) (hr : RD w eInt v ks) (hdb : DTb w) : Calls Tryd.prog 5 #[v] w (Ret (.bool true) w) := by
  have HR := hide hr
  have HDB := hide hdb
  have HRO := hide (skRows_any ks _ w hr hdb)
  unfold rowsOf at HRO
  clear hdb
  by_cases he : krL ks = 0
  · rw [if_pos he] at HRO
    obtain ⟨hlen, _, _⟩ := krL_in he
    obtain ⟨R, hR1, hR2, hR3, hR4⟩ := rowsN_range ks
    rw [hR2] at HRO
    have HNE := hide hR4
    have hR0 : 0 < R ↔ 0 < ks.length := by
      constructor
      · intro h
        cases ks with
        | nil => exact absurd (rowK_nil 0) (hR4 0 h)
        | cons a l => simp
      · intro h
        by_cases e : R = 0
        · have := hR3 0 (by omega)
          rw [rowK_0] at this
          rw [this] at h; simp at h
        · omega
    have HR0 := hide hR0
    obtain ⟨A, c, rfl, hc, hm⟩ := hr.shape
    clear hr he hR2 hR3 hR4 hR0
    go_enter Tryd.func5, Tryd.ntmps5
    go_wp2_with fail
    with_reducible refine HRO.out.mono ?_
    rintro e w1 ⟨v1, rfl, hr1, kk1⟩
    have HR1 := hide hr1
    obtain ⟨A1, c1, hv1, _, _⟩ := hr1.shape
    rw [List.length_map, List.length_range] at hv1
    subst hv1
    clear hr1
    go_wp2_with fail
    with_reducible refine (skipLives_any _ (HDB.out.kp kk1)).mono ?_
    rintro e w2 ⟨rfl, hb2⟩
    have kk2 : Kp w1 w2 := Kp.of hb2
    clear hb2
    have HREL : Hid (SneRel ks R w2 (.slice A ks.length c) (.int .i64 0) w2) := hide ⟨0, by omega, rfl, HR.out.kp (kk1.trans kk2), rfl⟩
    go_wp2
    go_loopw [5, 31] (SneRel ks R w2) (fun _ i _ => R - (intOf i).toNat)
    case atStart => exact HREL.out
    case round =>
      clear HREL
      obtain ⟨i, hi, rfl, hbl, rfl⟩ := hrel
      by_cases hlt : i < R
      · obtain ⟨b, o, u, rfl, _, cx, rx⟩ := (HR1.out.kp kk2).at_ (k := i) (by simp; omega)
        have erow : ((List.range R).map (rowK ks))[i]'(by simp; omega) = rowK ks i := by simp
        rw [erow] at rx
        have hrne := HNE.out i hlt
        obtain ⟨p, hp⟩ := below_filter ks i
        have hrow0 : i = 0 → (rowK ks i).length = ks.length := fun e => by rw [e, rowK_0]
        obtain ⟨x, hx⟩ : ∃ x, x = rowK ks i := ⟨_, rfl⟩
        obtain ⟨bl, hble⟩ : ∃ bl, bl = belowOf ks i := ⟨_, rfl⟩
        have HXB : Hid (rowK ks i = belowOf ks (i + 1)) := hide rfl
        rw [← hx] at rx hp hrow0 HXB hrne
        rw [← hble] at hbl hp
        have hxl : 0 < x.length := List.length_pos_iff.2 hrne
        obtain ⟨Ax, cxx, hux, hcx, hmx⟩ := rx.shape
        subst hux
        obtain ⟨Ab, cb, hub, hcb, hmb⟩ := hbl.shape
        subst hub
        have HRX := hide rx
        have HBL := hide hbl
        have HP := hide hp
        have HROW := hide hrow0
        have HREL : Hid (SniRel bl p w2 (.int .i64 0) (.int .i64 0) w2) := hide ⟨0, by omega, rfl, by simp, rfl⟩
        have i0 : (0 : Int) ≤ (i : Int) := by omega
        have i1 : (i : Int) < (R : Int) := by omega
        have di : decide ((i : Int) < (R : Int)) = true := by simp; omega
        clear erow hrne hp hrow0 hx hble rx hbl
        go_wp2
        go_loopw [8, 38] (SniRel bl p w2) (fun _ j _ => bl.length - (intOf j).toNat)
        case atStart => exact HREL.out
        case round =>
          clear HREL
          obtain ⟨j, hj, rfl, rfl, rfl⟩ := hrel
          have hkx : ((bl.take j).filter p).length ≤ x.length := by
            rw [HP.out]
            have e : bl.filter p = (bl.take j).filter p ++ (bl.drop j).filter p := by rw [← List.filter_append, List.take_append_drop]
            rw [e, List.length_append]; omega
          obtain ⟨k, hk⟩ : ∃ k, k = ((bl.take j).filter p).length := ⟨_, rfl⟩
          by_cases hjl : j < bl.length
          · obtain ⟨b2, o2, rfl, _, c0⟩ := HBL.out.int hjl
            have hft := filt_take (p := p) hjl
            rw [← hk] at hkx hft ⊢
            cases hpy : p bl[j] with
            | true =>
              obtain ⟨h2, h3⟩ := filt_at hjl hpy
              have hk2 : k < x.length := by rw [HP.out, hk]; exact h2
              have h4 : x[k] = bl[j] := by simp only [HP.out, hk]; exact h3
              obtain ⟨b3, o3, rfl, _, d0⟩ := HRX.out.int hk2
              rw [h4] at d0
              obtain ⟨y, hy⟩ : ∃ y, y = bl[j] := ⟨_, rfl⟩
              rw [← hy] at c0 d0
              rw [hpy, if_pos rfl] at hft
              have HFT := hide hft
              have k1 : (k : Int) < (x.length : Int) := by omega
              have k0 : (0 : Int) ≤ (k : Int) := by omega
              have dk : decide (k < x.length) = true := decide_eq_true hk2
              have s1 : IntKind.i64.wrap ((k : Int) + 1) = ((k + 1 : Nat) : Int) := by rw [IntWalk.i64_in _ (by omega)]; omega
              clear hft hk hkx h2 h3 h4 hy hpy
              go_wp2
              go_roundw
              case rel => exact ⟨j + 1, by omega, by go_num, by rw [HFT.out]; first | rfl | go_num, rfl⟩
              case measure => simp [intOf] <;> omega
            | false =>
              rw [hpy, if_neg (by simp), Nat.add_zero] at hft
              have HFT := hide hft
              by_cases hk2 : k < x.length
              · have h4 : x[k] ≠ bl[j] := by
                  have h5 := filt_ne (l := bl) hpy (k := k) (by rw [← HP.out]; exact hk2)
                  simp only [HP.out]
                  exact h5
                obtain ⟨b3, o3, rfl, _, d0⟩ := HRX.out.int hk2
                obtain ⟨y, hy⟩ : ∃ y, y = bl[j] := ⟨_, rfl⟩
                obtain ⟨z, hz⟩ : ∃ z, z = x[k] := ⟨_, rfl⟩
                rw [← hy] at c0 h4
                rw [← hz] at d0 h4
                have k1 : (k : Int) < (x.length : Int) := by omega
                have k0 : (0 : Int) ≤ (k : Int) := by omega
                have dk : decide (k < x.length) = true := decide_eq_true hk2
                have dz : (z == y) = false := by simpa using h4
                clear hft hk hkx h4 hy hz hpy
                go_wp2
                go_roundw
                case rel => exact ⟨j + 1, by omega, by go_num, by rw [HFT.out]; first | rfl | go_num, rfl⟩
                case measure => simp [intOf] <;> omega
              · have dk : decide (k < x.length) = false := decide_eq_false hk2
                clear hft hk hkx hpy
                go_wp2
                go_roundw
                case rel => exact ⟨j + 1, by omega, by go_num, by rw [HFT.out]; first | rfl | go_num, rfl⟩
                case measure => simp [intOf] <;> omega
          · have hkk : ((bl.take j).filter p).length = x.length := by rw [List.take_of_length_le (by omega), ← HP.out]
            rw [hkk]
            have d1 : ((x.length : Int) != (x.length : Int)) = false := by simp
            have d2 : ((x.length : Int) == 0) = false := beq_eq_false_iff_ne.2 (by omega)
            clear hkk hk hkx
            by_cases hi0 : i = 0
            · subst hi0
              have hxk := HROW.out rfl
              have d3 : ((x.length : Int) != (ks.length : Int)) = false := by rw [hxk]; simp
              clear hxk
              go_wp2
              go_roundw
              case rel => exact ⟨0 + 1, by omega, by go_num, by rw [← HXB.out]; exact HRX.out, rfl⟩
              case measure => simp [intOf] <;> omega
            · have d3 : ((i : Int) == 0) = false := by simp; omega
              go_wp2
              go_roundw
              case rel => exact ⟨i + 1, by omega, by go_num, by rw [← HXB.out]; exact HRX.out, rfl⟩
              case measure => simp [intOf] <;> omega
      · have hi2 : i = R := by omega
        have r12 : decide (R ≤ 12) = true := decide_eq_true (by omega)
        have hR := HR0.out
        by_cases hR0 : 0 < R
        · have d1 : decide (0 < R) = true := decide_eq_true hR0
          have d2 : decide (0 < ks.length) = true := decide_eq_true (hR.1 hR0)
          clear hR hbl hR0
          go_wp2
          go_ret
          exact ⟨rfl, (kk1.trans kk2).bel⟩
        · have d1 : decide (0 < R) = false := decide_eq_false hR0
          have d2 : decide (0 < ks.length) = false := decide_eq_false (fun h => hR0 (hR.2 h))
          clear hR hbl hR0
          go_wp2
          go_ret
          exact ⟨rfl, (kk1.trans kk2).bel⟩
  · rw [if_neg he] at HRO
    obtain ⟨A, c, rfl, hc, hm⟩ := hr.shape
    obtain ⟨er, her⟩ : ∃ er, er = krL ks := ⟨_, rfl⟩
    rw [← her] at HRO he
    have de : (er != 0) = true := by simpa using he
    clear her he hr
    go_enter Tryd.func5, Tryd.ntmps5
    go_wp2_with fail
    with_reducible refine HRO.out.mono ?_
    rintro e w1 ⟨v1, rfl, hr1, kk1⟩
    obtain ⟨A1, c1, hv1, _, _⟩ := hr1.shape
    subst hv1
    clear hr1
    go_wp2_with fail
    with_reducible refine (skipLives_any _ (HDB.out.kp kk1)).mono ?_
    rintro e w2 ⟨rfl, hb2⟩
    have kk2 : Kp w1 w2 := Kp.of hb2
    clear hb2
    go_wp2_with fail
    with_reducible refine (skipLives_any _ (HDB.out.kp (kk1.trans kk2))).mono ?_
    rintro e w3 ⟨rfl, hb3⟩
    have kk3 : Kp w2 w3 := Kp.of hb3
    clear hb3
    go_wp2
    go_ret
    exact ⟨rfl, (kk1.trans (kk2.trans kk3)).bel⟩
end Go.Proofs.YtfojphaemfbfnaaDoor
namespace Go.Proofs.YtfojphaemfbfnaaDoor
open Go.ChangeShapes Go.WideShapes Go.ChangeAt Go.RowKit Go.Deep
set_option linter.unusedVariables false
set_option linter.unusedSimpArgs false

set_option maxRecDepth 100000 in
theorem skipNested_lifted (os : Os) (started : os.Started) (H : Type) (enc : TypeId × Value → H) :
    ReturnsInHanded {} Tryd.checked os 5 .any (fun w args => (Rows.skipNestedSpec.pre enc Tryd.prog Tryd.f5 Rows.skipNestedRow.domain false w args ∧ laidMetH Tryd.prog ZLaid w) ∧ sizedMet enc Tryd.prog Tryd.f5 (OpenSpec.ofChange Rows.skipNestedSpec) false w args) (Rows.skipNestedSpec.post enc Tryd.prog Tryd.f5 false true false false) := by
  refine returnsInHanded_of_change_and (C := Tryd.checked) (X := fun w _ => laidMetH Tryd.prog ZLaid w) (fun _ _ _ hh h => h.of_heap hh) own started (by kernel_rfl) Tryd.func5
    (ChangeSpec.witness_at (enc := enc) (C := Tryd.checked) (os := os) (X := fun w _ => laidMetH Tryd.prog ZLaid w) false (laidWorldZ os) #[.slice none 0 0] 8 rfl (by kernel_rfl) (by kernel_rfl) (by kernel_rfl) (by kernel_rfl) (by kernel_rfl) (laidZ_met os _)) ?_
  intro W base args ds gs before hval0 hW hcnd _ hL _
  have hval : ∀ (j : Nat) t v, Tryd.f5.params[j]? = some t → args[j]? = some v → Value.okWide Tryd.prog W .any base t v := hval0
  have hW' := hW
  obtain ⟨p, q, hA0, hV, rfl, hfz, hnd⟩ := hW
  have hA : DataW.TrodAll enc Tryd.prog W 0 (fun _ => true) true Tryd.f5.params.toList args.toList ds p := hA0
  rw [Tryd.params5] at hA hval
  obtain ⟨v0, vs0, d0, ds0, p0, q0, hargs, rfl, rfl, h0, r0⟩ := trodAll_cons hA
  obtain ⟨rfl, rfl, rfl⟩ := trodAll_nil r0
  obtain rfl : args = #[v0] := by cases args; simp_all
  obtain ⟨rfl, rfl⟩ := trodVars_none hV
  obtain ⟨a0, n0, c0, rfl⟩ := okWide_slice Tryd.underlying22 (hval 0 22 v0 rfl rfl)
  have lt0 : ∀ x ∈ p0, x.block < W.heap.size := by obtain ⟨m, hm⟩ := h0; exact DataW.trod_lt m _ _ _ hm
  obtain ⟨l0, w0⟩ := arg_ints h0
  clear hA0 hval0
  refine (skipNested_walk l0 _ W w0 (db_of_laid hL)).mono fun e W' ⟨he, bel⟩ => ?_
  subst he
  exact ⟨_, rfl, _, _, _, [], _, [], hW', trodAll_mk1 (shut_bool Tryd.underlying4 _), (trodAll_cons_mk (Below.trod laidOut (by kernel_rfl) (of_decide_eq_true (by kernel_rfl)) h0 bel lt0) trodAll_mk0), rfl, bel.frame _, fun h => by cases h⟩

set_option maxRecDepth 100000 in
set_option maxHeartbeats 8000000 in
theorem skipNested_closed : joinedFacts Tryd.checked.prog 5 Tryd.f5 Rows.skipNestedSpec Rows.skipNestedRow = true := by
  unfold joinedFacts
  repeat' (with_reducible refine and_true_of ?_ ?_)
  all_goals (as_aux_lemma => kernel_rfl)
theorem skipNested_over : Rows.skipNestedRow.holds Tryd.pinned (OpenSpec.ofChange Rows.skipNestedSpec) :=
  OpenClaim.holds_of_wide 5 Tryd.f5 rfl rfl rfl rfl rfl rfl rfl ⟨rfl, rfl, rfl, rfl, rfl⟩ rfl rfl rfl rfl rfl (by as_aux_lemma => kernel_rfl) Tryd.func5 skipNested_closed
    (of_decide_eq_true (by as_aux_lemma => kernel_rfl)) (by as_aux_lemma => unfold Func.isWrapper; first | (rw [if_pos (by decide +kernel)]; kernel_rfl) | (rw [if_neg (by decide +kernel)]; exact ⟨rfl, rfl⟩))
    (fun os started H enc _ => skipNested_lifted os started H enc)
set_option maxRecDepth 100000 in
theorem skipNested_proved : Rows.SkipNestedCardSaid :=
  Claim7.holds_tied_plain_at .later [] [.data] true _ false skipNested_over (fun _ h => by cases h) (by kernel_rfl) (fun _ h => by cases h) skipNested_row_tie rfl ⟨rfl, rfl⟩ (by kernel_rfl) rfl
    (fun f fn hf hfn => by
      obtain rfl : f = 5 := Option.some.inj ((show Tryd.prog.funcNamed "hedgewright/hedgkeep.SkipNested" = some 5 by kernel_rfl).symm.trans hf) |>.symm
      obtain rfl : fn = Tryd.f5 := (Option.some.inj (Tryd.func5.symm.trans hfn)).symm
      exact ⟨by kernel_rfl, fun j t ht => by
        have h : (Tryd.f5.params.toList.all fun t => !Tryd.prog.wantsStandIn t) = true := by kernel_rfl
        have hm : t ∈ Tryd.f5.params.toList := by
          rw [Array.mem_toList_iff]
          exact Array.mem_of_getElem? ht
        have h2 : Tryd.prog.wantsStandIn t = false := by simpa using List.all_eq_true.1 h t hm
        exact h2⟩)
    (by kernel_rfl)
#print axioms skipNested_proved
end Go.Proofs.YtfojphaemfbfnaaDoor
