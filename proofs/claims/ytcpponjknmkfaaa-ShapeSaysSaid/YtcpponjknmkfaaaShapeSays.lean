/-
  hedglaw.ShapeSays: the walk: it answers true. Conditions: the lists read as l and first (RD).
-/
import Derived.Test.YtcpponjknmkfaaaFirstLaw
import Derived.Test.YtcpponjknmkfaaaOrder3
import Derived.Test.YtcpponjknmkfaaaToldK3
import Derived.Test.YtcpponjknmkfaaaTreeOf
import Derived.Test.YtcpponjknmkfaaaSame
import Derived.Deep.DeepCutAuto
import Derived.Lib.MinMax
namespace Go.Proofs.Ytcpponjknmkfaaa
open Go.ChangeShapes Go.WideShapes Go.ChangeAt Go.RowKit
set_option linter.unusedVariables false
set_option linter.unusedSimpArgs false

def toldW (way : Int) (t : T) : List Int := if way = 1 then told1 t else if way = 2 then told2 t else told3 t
theorem toldW_any (way : Int) (h1 : 1 ≤ way) (h2 : way ≤ 3) (t : T) (v : Option Addr) (w : World) (h : TR w t v) (hsz : t.size ≤ 100000) : Calls Try.prog 18 #[.pointer v, .int .i64 way] w (RetOW 3 eInt (toldW way t) w) := by
  unfold toldW
  by_cases e1 : way = 1
  · subst e1; exact told1_any t v w h (by omega)
  · by_cases e2 : way = 2
    · subst e2; rw [if_neg e1, if_pos rfl]; exact told2_any t v w h (by omega)
    · obtain rfl : way = 3 := by omega
      rw [if_neg e1, if_neg e2]; exact told3_any t v w h hsz
theorem orderW_any (l : List IP) (way : Int) (v : Value) (w : World) (hr : RD w ePair v l) : Calls Try.prog 11 #[v, .int .i64 way] w (Ret2 eInt (orderOf l way) w) := by
  by_cases h : way = 3
  · subst h; exact order3_any l v w hr
  · exact order_any l way v w hr h
theorem orderW_law (l : List IP) (h : (parOf l).2 = 0) (way : Int) : (1 ≤ way ∧ way ≤ 3 → orderOf l way = (toldW way (treeOf l 0).1, 0)) ∧ (¬ (1 ≤ way ∧ way ≤ 3) → orderOf l way = ([], 1)) := by
  have e := order_told l h way
  rw [e]
  unfold toldW
  constructor
  · rintro ⟨h1, h2⟩
    by_cases e1 : way = 1
    · simp [e1]
    · by_cases e2 : way = 2
      · simp [e2]
      · have e3 : way = 3 := by omega
        simp [e3]
  · intro hn
    rw [if_neg (by omega), if_neg (by omega), if_neg (by omega)]
theorem shape_size : ∀ t : T, ((t.spots 0).length : Int) = t.size := fun t => by rw [T.spots_len]

/-- The state of the loop over first. -/
def FsRel (F : List Int) (w : World) (av tv iv : Value) (wr : World) : Prop :=
  ∃ (k : Nat) (p : Option Addr) (W : Int), k ≤ F.length ∧ iv = .int .i64 k ∧ tv = .pointer p ∧ av = .int .i64 W ∧ TR wr ((F.take k).foldl leafT .nil) p ∧
    ((W = 0 ∧ ∀ j (h : j < F.length), j < k → 0 ≤ F[j] ∧ F[j] ≤ 1000000) ∨ (W = 3 ∧ ¬ keysIn F)) ∧ Kp w wr
/-- What is known behind the loop over first. -/
def FsCut (F : List Int) (w : World) (av tv : Value) (wx : World) : Prop :=
  ∃ (W : Int) (p : Option Addr), av = .int .i64 W ∧ tv = .pointer p ∧ Kp w wx ∧ ((W = 0 ∧ ∃ t, TR wx t p ∧ t.size ≤ 200 ∧ shapeOf F = (t.spots 0, 0)) ∨ (W ≠ 0 ∧ shapeOf F = ([], W)))
def KlRel (n : Nat) (w : World) (iv : Value) (wr : World) : Prop := ∃ k : Nat, k ≤ n ∧ iv = .int .i64 k ∧ Kp w wr
def UiRel (D : Nat → Int) (k n : Nat) (w : World) (uv iv : Value) (wr : World) : Prop := ∃ i : Nat, i ≤ n ∧ uv = .int .i64 (upAcc D k i) ∧ iv = .int .i64 i ∧ Kp w wr
def ClRel (D : Nat → Int) (k mn mx : Nat) (w : World) (cv jv : Value) (wr : World) : Prop :=
  ∃ (j : Nat) (c : Bool), mn < j ∧ j ≤ mx ∧ cv = .bool c ∧ jv = .int .i64 j ∧ (c = true ↔ ∀ j', mn < j' → j' < j → D k ≤ D j') ∧ Kp w wr

set_option maxRecDepth 100000 in
set_option maxHeartbeats 8000000 in
theorem shapeSays_walk (l : List IP) (way : Int) (F : List Int) (v u : Value) (w : World) (hr : RD w ePair v l) (hway : -9223372036854775808 ≤ way ∧ way ≤ 9223372036854775807) (hu : RD w eInt u F) : Calls Try.prog 3 #[v, .int .i64 way, u] w (Ret (.bool true) w) := by
  obtain ⟨A, c, rfl, hc, hm⟩ := hr.shape
  obtain ⟨Af, cf, rfl, hcf, hmf⟩ := hu.shape
  have HR := hide hr
  have HRF := hide hu
  clear hr hu hway
  have HPA := hide (fun W v h => parents_of l v W h)
  have HOR := hide (fun W v h => orderW_any l way v W h)
  have HOF := hide (fun W v h => shapeOf_any F v W h)
  have HSR := hide (fun W v h => spotsRight_any l v W h)
  have HCK := hide (fun W v h => shapeCheck_any l v W h)
  have hpz : (parOf l).2 = 0 → l.length ≤ 200 ∧ (parOf l).1.length = l.length ∧ (∀ k, k < l.length → (parOf l).1[k]? = some (upAcc (gv l) k l.length)) ∧ (∀ k (h : k < l.length), 0 ≤ l[k].2 ∧ l[k].2 < 200) ∧ (treeOf l 0).1.size ≤ 100000 := fun h => by
    obtain ⟨h1, h2, t, ht, hp⟩ := parOf_len l h
    have hs := ptR_size l 0 l.length 0 t (by omega) ht
    exact ⟨h1, by rw [hp]; simp only; rw [PT.pars_len]; omega, fun k hk => par_up l h k hk, fun k hk => gv_bound l h k hk, by have h3 := shape_size (treeOf l 0).1; rw [(treeOf_spots l h).1] at h3; omega⟩
  have hpn : (parOf l).2 ≠ 0 → (parOf l).1 = [] ∧ orderOf l way = ([], (parOf l).2) := fun h => by
    refine ⟨?_, by rw [orderOf, if_pos h]⟩
    unfold parOf at h ⊢
    split
    · rfl
    · split
      · rename_i h1 h2 h3 h4; rw [if_neg h1] at h; simp only [h4] at h; simp at h
      · rfl
  have hol := fun h => orderW_law l h way
  obtain ⟨P, hP⟩ : ∃ P, P = parOf l := ⟨_, rfl⟩
  obtain ⟨O, hO⟩ : ∃ O, O = orderOf l way := ⟨_, rfl⟩
  obtain ⟨S, hS⟩ : ∃ S, S = shapeOf F := ⟨_, rfl⟩
  rw [← hP] at HPA HSR HCK hpz hpn hol
  rw [← hO] at HOR hpn hol
  rw [← hS] at HOF
  have HSF := hide hS
  obtain ⟨ps, er⟩ := P
  obtain ⟨os, oe⟩ := O
  obtain ⟨ss, se⟩ := S
  have HPZ := hide hpz
  have HPN := hide hpn
  have HOL := hide hol
  have b0 : (er != er) = false := by simp
  clear hP hO hS hpz hpn hol
  go_enter Try.func3, Try.ntmps3
  go_wp2_with fail
  with_reducible refine ((HPA).out _ _ (HR.out)).mono ?_
  rintro e w1 ⟨v1, rfl, hr1, hb1⟩
  have kk1 := Kp.of hb1
  have HR1 := hide hr1
  clear hr1 hb1
  obtain ⟨A1, c1, rfl, _, _⟩ := HR1.out.shape
  go_wp2_with fail
  with_reducible refine ((HOR).out _ _ ((HR.out.kp kk1))).mono ?_
  rintro e w2 ⟨v2, rfl, hr2, hb2⟩
  have kk2 := Kp.of hb2
  have HR2 := hide hr2
  clear hr2 hb2
  obtain ⟨A2, c2, rfl, _, _⟩ := HR2.out.shape
  go_wp2_with fail
  with_reducible refine ((HOF).out _ _ ((HRF.out.kp (kk1.trans kk2)))).mono ?_
  rintro e w3 ⟨v3, rfl, hr3, hb3⟩
  have kk3 := Kp.of hb3
  have HR3 := hide hr3
  clear hr3 hb3
  obtain ⟨A3, c3, rfl, _, _⟩ := HR3.out.shape
  go_wp2_with fail
  with_reducible refine (HSR.out _ _ (HR.out.kp (kk1.trans (kk2.trans kk3)))).mono ?_
  rintro e w4 ⟨rfl, hb4⟩
  have kk4 := Kp.of hb4
  clear hb4
  go_wp2_with fail
  with_reducible refine (HCK.out _ _ (HR.out.kp (kk1.trans (kk2.trans (kk3.trans kk4))))).mono ?_
  rintro e w5 ⟨rfl, hb5⟩
  have kk5 := Kp.of hb5
  clear hb5
  have KA := kk1.trans (kk2.trans (kk3.trans (kk4.trans kk5)))
  have HR5 := hide (HR.out.kp KA)
  have HF5 := hide (HRF.out.kp KA)
  have H15 := hide (HR1.out.kp (kk2.trans (kk3.trans (kk4.trans kk5))))
  have H25 := hide (HR2.out.kp (kk3.trans (kk4.trans kk5)))
  have H35 := hide (HR3.out.kp (kk4.trans kk5))
  have HK5 := hide KA
  clear KA kk1 kk2 kk3 kk4 kk5 HR HRF HR1 HR2 HR3 HPA HOR HOF HSR HCK
  go_upto_if 51 with fail
  go_cut [14, 15] (fun s14 s15 wx => FsCut F w5 s14 s15 wx)
  case first =>
    by_cases hlen : F.length > 200
    · have d1 : (200 : Int) < (F.length : Int) := by omega
      have HE : Hid (shapeOf F = ([], 2)) := hide (by rw [shapeOf, if_pos hlen])
      clear hlen
      go_wp2_with fail
      go_meet
      exact ⟨2, none, rfl, rfl, Kp.refl _, .inr ⟨by decide, HE.out⟩⟩
    · have d1 : (F.length : Int) ≤ 200 := by omega
      have HLE : Hid (F.length ≤ 200) := hide (by omega)
      have HFL := hide (first_law F (by omega))
      have HSZ := hide (buildT_size F)
      have HKN : Hid (¬ keysIn F → shapeOf F = ([], 3)) := hide (fun h => by rw [shapeOf, if_neg hlen, if_pos h])
      clear hlen
      go_wp2
      go_loopw [14, 15, 54] (FsRel F w5) (fun _ _ i _ => F.length - (intOf i).toNat)
      case atStart => exact ⟨0, none, 0, by omega, rfl, rfl, rfl, rfl, .inl ⟨rfl, fun _ _ h => by omega⟩, Kp.refl _⟩
      case round =>
        obtain ⟨k, p, W, hk, rfl, rfl, rfl, ht, hw, hkp⟩ := hrel
        have HT := hide ht
        have HW := hide hw
        clear ht hw
        by_cases hlt : k < F.length
        · obtain ⟨b, o, rfl, _, c0⟩ := (HF5.out.kp hkp).int hlt
          have hs : (F.take (k + 1)).foldl leafT .nil = leafT ((F.take k).foldl leafT .nil) F[k] := by rw [List.take_succ_eq_append_getElem hlt, List.foldl_append]; rfl
          have hin : F[k] ∈ F := List.getElem_mem hlt
          obtain ⟨y, hy⟩ : ∃ y, y = F[k] := ⟨_, rfl⟩
          rw [← hy] at c0 hs hin
          have HS := hide hs
          have HY := hide hy
          have HIN := hide hin
          obtain ⟨T0, hT0⟩ : ∃ T0, T0 = (F.take k).foldl leafT .nil := ⟨_, rfl⟩
          rw [← hT0] at HT HS
          have HLF := hide (fun W h => leaf_any T0 p y W h)
          clear hy hs hT0 hin
          rcases btw_cases y 0 1000000 with ⟨hb, hi⟩ | ⟨hb, hi⟩
          · have HI := hide hi
            clear hi
            go_wp2_with fail
            with_reducible refine (between_to y 0 1000000 true _ hb).mono ?_
            rintro e w6 ⟨rfl, rfl⟩
            go_wp2_with fail
            with_reducible refine (HLF.out _ HT.out).mono ?_
            rintro e w6 ⟨p6, rfl, ht6, hb6⟩
            have kk6 := Kp.of hb6
            have HT6 := hide ht6
            clear ht6 hb6
            go_wp2
            go_roundw
            case rel => exact ⟨k + 1, p6, W, by omega, by go_num, rfl, rfl, by rw [HS.out]; exact HT6.out, HW.out.imp (fun h => ⟨h.1, fun j h1 h2 => by
              rcases Nat.lt_or_ge j k with h3 | h3
              · exact h.2 j h1 h3
              · obtain rfl : j = k := by omega
                rw [← HY.out]; exact HI.out⟩) id, hkp.trans kk6⟩
            case measure => simp [intOf]; omega
          · have HI : Hid (¬ keysIn F) := hide (fun h => by have := h y HIN.out; omega)
            clear hi
            go_wp2_with fail
            with_reducible refine (between_to y 0 1000000 false _ hb).mono ?_
            rintro e w6 ⟨rfl, rfl⟩
            go_wp2_with fail
            with_reducible refine (HLF.out _ HT.out).mono ?_
            rintro e w6 ⟨p6, rfl, ht6, hb6⟩
            have kk6 := Kp.of hb6
            have HT6 := hide ht6
            clear ht6 hb6
            go_wp2
            go_roundw
            case rel => exact ⟨k + 1, p6, 3, by omega, by go_num, rfl, rfl, by rw [HS.out]; exact HT6.out, .inr ⟨rfl, HI.out⟩, hkp.trans kk6⟩
            case measure => simp [intOf]; omega
        · have ht6 : TR wr (buildT F) p := by have := HT.out; rw [List.take_of_length_le (by omega)] at this; exact this
          obtain ⟨T0, hT0⟩ : ∃ T0, T0 = buildT F := ⟨_, rfl⟩
          rw [← hT0] at ht6 HFL HSZ
          have HT6 := hide ht6
          clear ht6 HT hT0
          rcases HW.out with ⟨rfl, hj⟩ | ⟨rfl, hn⟩
          · have hki : keysIn F := fun x hx => by
              obtain ⟨j, h1, rfl⟩ := List.getElem_of_mem hx
              exact hj j h1 (by omega)
            have HFK := hide (HFL.out hki)
            clear hj hki HFL HW
            have HTK := hide (fun W h => told1_any T0 p W h (by have := HSZ.out; have := HLE.out; omega))
            by_cases he : told1 T0 = F
            · have hd : decide (told1 T0 = F) = true := by simp [he]
              have HE := hide (HFK.out.1 he)
              clear he HFK
              go_wp2_with fail
              with_reducible refine (HTK.out _ HT6.out).mono ?_
              rintro e w7 ⟨v7, rfl, ho7, hb7⟩
              have kk7 := Kp.of hb7
              have HR7 := hide ho7.rd
              clear ho7 hb7
              go_wp2_with fail
              refine (sameInts_to (told1 T0) F _ _ _ _ HR7.out (HF5.out.kp (hkp.trans kk7)) hd).mono ?_
              rintro e w8 ⟨rfl, hb8⟩
              have kk8 := Kp.of hb8
              clear hb8 hd
              go_wp2_with fail
              go_meet
              exact ⟨0, p, rfl, rfl, hkp.trans (kk7.trans kk8), .inl ⟨rfl, T0, HT6.out.kp (kk7.trans kk8), by have := HSZ.out; have := HLE.out; omega, HE.out⟩⟩
            · have hd : decide (told1 T0 = F) = false := by simp [he]
              have HE := hide (HFK.out.2 he)
              clear he HFK
              go_wp2_with fail
              with_reducible refine (HTK.out _ HT6.out).mono ?_
              rintro e w7 ⟨v7, rfl, ho7, hb7⟩
              have kk7 := Kp.of hb7
              have HR7 := hide ho7.rd
              clear ho7 hb7
              go_wp2_with fail
              refine (sameInts_to (told1 T0) F _ _ _ _ HR7.out (HF5.out.kp (hkp.trans kk7)) hd).mono ?_
              rintro e w8 ⟨rfl, hb8⟩
              have kk8 := Kp.of hb8
              clear hb8 hd
              go_wp2_with fail
              go_meet
              exact ⟨3, p, rfl, rfl, hkp.trans (kk7.trans kk8), .inr ⟨by decide, HE.out⟩⟩
          · have d3 : ((3 : Int) == 0) = false := by decide
            have HN := hide (HKN.out hn)
            clear hn HFL
            go_wp2_with fail
            go_meet
            exact ⟨3, p, rfl, rfl, hkp, .inr ⟨by decide, HN.out⟩⟩
  case rest =>
    obtain ⟨W, p, rfl, rfl, kk6, hcut⟩ := hcut
    have HC6 := hide hcut
    clear hcut
    go_upto_if 75 with fail
    go_cut [] (fun wx => Kp wc wx)
    case first =>
      rcases HC6.out with ⟨rfl, T0, ht, hsz, he⟩ | ⟨hW, he⟩
      · have e1 := HSF.out.trans he
        injection e1 with e1 e2
        subst e1 e2
        have HT6 := hide ht
        have d1 : ((0 : Int) != 0) = false := by decide
        have HSZ : Hid ((0 : Int) + T0.size ≤ 1073741824) := hide (by omega)
        clear he ht hsz HC6
        go_wp2_with fail
        with_reducible refine (spots_any T0 p 0 _ HT6.out (by omega) HSZ.out).mono ?_
        rintro e w7 ⟨v7, rfl, ho7, hb7⟩
        have kk7 := Kp.of hb7
        have HR7 := hide ho7.rd
        clear ho7 hb7
        go_wp2_with fail
        refine (sameSpots_to (T0.spots 0) (T0.spots 0) true _ _ _ (H35.out.kp (kk6.trans kk7)) HR7.out (by simp)).mono ?_
        rintro e w8 ⟨rfl, hb8⟩
        have kk8 := Kp.of hb8
        clear hb8
        go_wp2_with fail
        go_meet
        exact kk7.trans kk8
      · have e1 := HSF.out.trans he
        injection e1 with e1 e2
        subst e1 e2
        have d1 : (se != 0) = true := by simpa using hW
        have d2 : (se != se) = false := by simp
        clear he HC6 hW
        go_wp2_with fail
        go_meet
        exact Kp.refl _
    case rest =>
      have KB : Hid (Kp w5 wc) := hide (kk6.trans hcut)
      clear kk6 hcut HC6
      by_cases h0 : er = 0
      · subst h0
        obtain ⟨hlen, hpl, hup, hdep, hts⟩ := HPZ.out rfl
        have hol := HOL.out rfl
        have HOW := hide hol
        have HUP := hide hup
        have HDE := hide hdep
        have hpn : ((ps.length : Int) != (l.length : Int)) = false := by simp; omega
        have HTO := hide (fun W v h => treeOf_any l.length l v 0 W (Nat.le_refl _) (by omega) (by omega) (by omega) h)
        obtain ⟨TT, hTT⟩ : ∃ TT, TT = treeOf l 0 := ⟨_, rfl⟩
        rw [← hTT] at HTO hts HOW
        obtain ⟨T1, tb⟩ := TT
        have HTS := hide hts
        clear HPZ HPN HOL hol hup hdep hts hTT
        go_wp2_with fail
        with_reducible refine (HTO.out _ _ (HR5.out.kp KB.out)).mono ?_
        rintro e w8 ⟨p8, rfl, ht8, hb8⟩
        have KC : Hid (Kp w5 w8) := hide (KB.out.trans (Kp.of hb8))
        have HT8 := hide ht8
        have HL8 := hide (HR5.out.kp KC.out)
        have HP8 := hide (H15.out.kp KC.out)
        rw [hpl] at HP8
        have HO8 := hide (H25.out.kp KC.out)
        clear ht8 hb8 HTO
        go_wp2
        go_loopw [129] (KlRel l.length w8) (fun i _ => l.length - (intOf i).toNat)
        case atStart => exact ⟨0, by omega, rfl, Kp.refl _⟩
        case round =>
          obtain ⟨k, hk, rfl, hkp⟩ := hrel
          by_cases hlt : k < l.length
          · obtain ⟨b, o, rfl, hb, c0, c1⟩ := (HL8.out.kp hkp).pair hlt
            have hbk := HDE.out k hlt
            have hgk := gv_eq l k hlt
            have hukk := HUP.out k hlt
            obtain ⟨K0, hK0⟩ : ∃ K0, K0 = l[k].1 := ⟨_, rfl⟩
            obtain ⟨D0, hD0⟩ : ∃ D0, D0 = l[k].2 := ⟨_, rfl⟩
            rw [← hD0] at c1 hbk hgk
            rw [← hK0] at c0
            have hw1 : IntKind.i64.wrap (D0 - 1) = D0 - 1 := IntWalk.i64_in _ (by omega)
            have HGK := hide hgk
            have HUK := hide hukk
            clear hK0 hD0 hbk hgk hukk
            obtain ⟨wo, rfl⟩ : ∃ wo : World, wo = wr := ⟨_, rfl⟩
            go_wp2
            go_loopw [22, 136] (UiRel (gv l) k l.length (wo.alloc (.cells #[.int .i64 K0, .int .i64 D0] 41))) (fun _ i _ => l.length - (intOf i).toNat)
            case atStart => exact ⟨0, by omega, rfl, rfl, Kp.refl _⟩
            case round =>
              obtain ⟨i, hi, rfl, rfl, hkp4⟩ := hrel
              have hk54 : Kp w8 wr := (hkp.alloc).trans hkp4
              have p1 : wr.cell? ⟨wo.heap.size, 1, none⟩ = some (.int .i64 D0) := hkp4.cell (cell_of_row _ _ 1 _ _ (0, 0) (heap_alloc_new wo _))
              have hsz : wo.heap.size < wr.heap.size := by have h := hkp4.size; simp at h; omega
              by_cases hlti : i < l.length
              · obtain ⟨b2, o2, e2, _, x0, x1⟩ := (HL8.out.kp hk54).pair hlti
                injection e2 with e2
                injection e2 with e2 e3
                subst e2 e3
                have hgi := gv_eq l i hlti
                have HDI := hide (HDE.out i hlti)
                obtain ⟨K1, hK1⟩ : ∃ K1, K1 = l[i].1 := ⟨_, rfl⟩
                obtain ⟨D1, hD1⟩ : ∃ D1, D1 = l[i].2 := ⟨_, rfl⟩
                rw [← hD1] at x1 hgi
                rw [← hK1] at x0
                have HGI := hide hgi
                clear hgi hK1 hD1
                by_cases he : D1 = D0 - 1
                · have d1 : (D1 == D0 - 1) = true := by simp [he]
                  have hik : i ≠ k := fun e => by subst e; have h1 := HGI.out; rw [HGK.out] at h1; omega
                  obtain ⟨mn, hmn⟩ : ∃ mn, mn = min i k := ⟨_, rfl⟩
                  obtain ⟨mx, hmx⟩ : ∃ mx, mx = max i k := ⟨_, rfl⟩
                  have hMN : min (i : Int) (k : Int) = (mn : Int) := by omega
                  have hMX : max (i : Int) (k : Int) = (mx : Int) := by omega
                  have hmm : mn < mx ∧ mx < l.length := by omega
                  have hw2 : IntKind.i64.wrap ((mn : Int) + 1) = ((mn + 1 : Nat) : Int) := by rw [IntWalk.i64_in _ (by omega)]; omega
                  have HQ : Hid (UpQ (gv l) k i ↔ ∀ j', mn < j' → j' < mx → D0 ≤ gv l j') := hide (by
                    unfold UpQ
                    rw [HGK.out, HGI.out, ← hmn, ← hmx]
                    exact ⟨fun h => h.2, fun h => ⟨he, h⟩⟩)
                  have HMM := hide hmm
                  clear hmn hmx he hik hmm
                  obtain ⟨wi, rfl⟩ : ∃ x : World, x = wr := ⟨_, rfl⟩
                  go_wp2
                  go_loopw [25, 26] (ClRel (gv l) k mn mx (wi.alloc (.cells #[.int .i64 K1, .int .i64 D1] 41))) (fun _ j _ => mx - (intOf j).toNat)
                  case atStart => exact ⟨mn + 1, true, by omega, by have := HMM.out; omega, rfl, by go_num, by simp; omega, Kp.refl _⟩
                  case round =>
                    obtain ⟨j, cb, hj1, hj2, rfl, rfl, hcb, hkp5⟩ := hrel
                    have hk55 : Kp w8 wr := (hk54.alloc).trans hkp5
                    have p2 : wr.cell? ⟨wo.heap.size, 1, none⟩ = some (.int .i64 D0) := hkp5.cell (((Kp.refl wi).alloc).cell p1)
                    have HCB := hide hcb
                    have KE : Hid (Kp (wo.alloc (.cells #[.int .i64 K0, .int .i64 D0] 41)) wr) := hide (hkp4.trans (((Kp.refl wi).alloc).trans hkp5))
                    clear hcb
                    by_cases hltj : j < mx
                    · have hjl : j < l.length := by have := HMM.out; omega
                      obtain ⟨b2, o2, e2, _, y0, y1⟩ := (HL8.out.kp hk55).pair hjl
                      injection e2 with e2
                      injection e2 with e2 e3
                      subst e2 e3
                      have hgj := gv_eq l j hjl
                      obtain ⟨D2, hD2⟩ : ∃ D2, D2 = l[j].2 := ⟨_, rfl⟩
                      rw [← hD2] at y1 hgj
                      have HGJ := hide hgj
                      have hjl2 : (j : Int) < (l.length : Int) := by omega
                      have hj0 : (0 : Int) ≤ (j : Int) := by omega
                      clear hgj hD2
                      obtain ⟨q, hq⟩ : ∃ q, q = decide (D0 ≤ D2) := ⟨_, rfl⟩
                      have HQJ := hide hq
                      have d2 : decide (D0 ≤ D2) = q := hq.symm
                      have HST : Hid ((cb && q) = true ↔ ∀ j', mn < j' → j' < j + 1 → gv l k ≤ gv l j') := hide (by
                        rw [Bool.and_eq_true, HCB.out, hq, decide_eq_true_eq]
                        constructor
                        · rintro ⟨h1, h2⟩ j' h3 h4
                          rcases Nat.lt_or_ge j' j with h5 | h5
                          · exact h1 j' h3 h5
                          · obtain rfl : j' = j := by omega
                            rw [HGK.out, HGJ.out]; exact h2
                        · intro h
                          exact ⟨fun j' h1 h2 => h j' h1 (by omega), by have := h j hj1 (by omega); rwa [HGK.out, HGJ.out] at this⟩)
                      clear hq
                      cases cb with
                      | true =>
                        go_wp2_with fail
                        go_quiet (fail)
                        go_wp2
                        go_roundw
                        case rel => exact ⟨j + 1, true && q, by omega, by omega, by first | rfl | simp, by go_num, HST.out, by (focus ((repeat (first | (with_reducible assumption) | (with_reducible exact Kp.refl _) | (with_reducible apply Kp.drew) | (with_reducible apply Kp.drewN) | ((with_reducible apply Kp.setR); (focus (first | (with_reducible assumption) | (simp; done) | (simp; omega)))) | (with_reducible apply Kp.alloc) | ((with_reducible apply Kp.call); (with_reducible assumption)) | ((with_reducible apply Kp.app); (with_reducible assumption)))); done))⟩
                        case measure => simp [intOf]; omega
                      | false =>
                        go_wp2_with fail
                        go_quiet (fail)
                        go_wp2
                        go_roundw
                        case rel => exact ⟨j + 1, false && q, by omega, by omega, by first | rfl | simp, by go_num, HST.out, by (focus ((repeat (first | (with_reducible assumption) | (with_reducible exact Kp.refl _) | (with_reducible apply Kp.drew) | (with_reducible apply Kp.drewN) | ((with_reducible apply Kp.setR); (focus (first | (with_reducible assumption) | (simp; done) | (simp; omega)))) | (with_reducible apply Kp.alloc) | ((with_reducible apply Kp.call); (with_reducible assumption)) | ((with_reducible apply Kp.app); (with_reducible assumption)))); done))⟩
                        case measure => simp [intOf]; omega
                    · obtain rfl : j = mx := by omega
                      cases cb with
                      | true =>
                        have HUA : Hid (upAcc (gv l) k (i + 1) = (i : Int)) := hide (by rw [upAcc, if_pos (HQ.out.2 (by rw [← HGK.out]; exact HCB.out.1 rfl))])
                        go_wp2
                        go_roundw
                        case rel => exact ⟨i + 1, by omega, by rw [HUA.out], by go_num, KE.out⟩
                        case measure => simp [intOf]; omega
                      | false =>
                        have HUA : Hid (upAcc (gv l) k (i + 1) = upAcc (gv l) k i) := hide (by rw [upAcc, if_neg (fun h => by have h1 := HQ.out.1 h; rw [← HGK.out] at h1; exact absurd (HCB.out.2 h1) (by simp))])
                        go_wp2
                        go_roundw
                        case rel => exact ⟨i + 1, by omega, by rw [HUA.out], by go_num, KE.out⟩
                        case measure => simp [intOf]; omega
                · have d1 : (D1 == D0 - 1) = false := by simp [he]
                  have HUA : Hid (upAcc (gv l) k (i + 1) = upAcc (gv l) k i) := hide (by rw [upAcc, if_neg (fun h => he (by rw [← HGI.out, ← HGK.out]; exact h.1))])
                  clear he
                  go_wp2
                  go_roundw
                  case rel => exact ⟨i + 1, by omega, by rw [HUA.out], by go_num, by (focus ((repeat (first | (with_reducible assumption) | (with_reducible exact Kp.refl _) | (with_reducible apply Kp.drew) | (with_reducible apply Kp.drewN) | ((with_reducible apply Kp.setR); (focus (first | (with_reducible assumption) | (simp; done) | (simp; omega)))) | (with_reducible apply Kp.alloc) | ((with_reducible apply Kp.call); (with_reducible assumption)) | ((with_reducible apply Kp.app); (with_reducible assumption)))); done))⟩
                  case measure => simp [intOf]; omega
              · obtain rfl : i = l.length := by omega
                obtain ⟨b2, o2, e2, _, z0⟩ := (HP8.out.kp hk54).int (k := k) (by rw [hpl]; exact hlt)
                subst e2
                have hup := HUK.out
                rw [List.getElem?_eq_getElem (by rw [hpl]; exact hlt)] at hup
                injection hup with hup
                rw [hup] at z0
                have hne : (upAcc (gv l) k l.length != upAcc (gv l) k l.length) = false := by simp
                clear hup
                go_wp2
                go_roundw
                case rel => exact ⟨k + 1, by omega, by go_num, hk54⟩
                case measure => simp [intOf]; omega
          · rcases btw_cases way 1 3 with ⟨hb, hi⟩ | ⟨hb, hi⟩
            · have e1 := HOW.out.1 hi
              injection e1 with e1 e2
              subst e1 e2
              have HTK := hide (fun W h => toldW_any way hi.1 hi.2 T1 p8 W h HTS.out)
              clear HOW hi
              go_wp2_with fail
              with_reducible refine (between_to way 1 3 true _ hb).mono ?_
              rintro e w9 ⟨rfl, rfl⟩
              go_wp2_with fail
              with_reducible refine (HTK.out _ (HT8.out.kp hkp)).mono ?_
              rintro e w9 ⟨v9, rfl, ho9, hb9⟩
              have kk9 := Kp.of hb9
              have HR9 := hide ho9.rd
              clear ho9 hb9
              go_wp2_with fail
              refine (sameInts_to (toldW way T1) (toldW way T1) true _ _ _ (HO8.out.kp (hkp.trans kk9)) HR9.out (by simp)).mono ?_
              rintro e w10 ⟨rfl, hb10⟩
              have kk10 := Kp.of hb10
              clear hb10
              go_wp2
              go_ret
              exact ⟨rfl, (HK5.out.trans (KC.out.trans (hkp.trans (kk9.trans kk10)))).bel⟩
            · have e1 := HOW.out.2 (by omega)
              injection e1 with e1 e2
              subst e1 e2
              clear HOW hi
              go_wp2_with fail
              with_reducible refine (between_to way 1 3 false _ hb).mono ?_
              rintro e w9 ⟨rfl, rfl⟩
              go_wp2
              go_ret
              exact ⟨rfl, (HK5.out.trans (KC.out.trans hkp)).bel⟩
      · obtain ⟨rfl, e1⟩ := HPN.out h0
        injection e1 with e1 e2
        subst e1 e2
        have d1 : (oe != 0) = true := by simpa using h0
        have d2 : (oe == oe) = true := by simp
        clear h0 HPN HPZ HOL
        go_wp2
        go_ret
        exact ⟨rfl, (HK5.out.trans KB.out).bel⟩
end Go.Proofs.Ytcpponjknmkfaaa
