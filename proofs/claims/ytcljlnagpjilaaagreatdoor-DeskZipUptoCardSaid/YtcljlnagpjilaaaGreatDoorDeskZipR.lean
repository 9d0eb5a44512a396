/-
  hedgkeep.DeskZip
  hedgkeep.DeskZip: THE STATEMENT of the second form: for every input of the bound it answer
-/
import Derived.Test.YtcljlnagpjilaaaGreatDoorG47
import Derived.Test.YtcljlnagpjilaaaGreatDoorG49
import Derived.Test.YtcljlnagpjilaaaGreatDoorCards
import Derived.Test.YtcljlnagpjilaaaGreatDoorTie
import Derived.SevenTiedAt
import Derived.Deep.DeepHandedRow
import Derived.Test.YtcljlnagpjilaaaGreatDoorG1

set_option linter.unusedVariables false
set_option linter.unusedSimpArgs false
set_option maxRecDepth 100000
set_option maxHeartbeats 8000000
namespace Go.Proofs.YtcljlnagpjilaaaGreatDoor
open Go.ChangeShapes Go.WideShapes Go.ChangeAt Go.RowKit
theorem splitB_sp (s : By) (c : UInt8) : Lib.splitB ⟨#[c]⟩ 0 (Lib.countB (bs s) ⟨#[c]⟩) (bs s) = (sp1 c [] s).map bs := by
 have h1 := Lib.splitB_data ⟨#[c]⟩ 0 (Lib.countB (bs s) ⟨#[c]⟩) (bs s)
 have h2 : Lib.countB (bs s) ⟨#[c]⟩ = s.count c := count_one s c
 rw [show (⟨#[c]⟩ : ByteArray).data.toList = [c] from rfl, show (bs s).data.toList = s from rfl, splitK_sp1 c _ _ (by rw [h2]; exact Nat.le_refl _)] at h1
 rw [<- h1, List.map_map]
 exact (List.map_id _).symm
theorem deskRun_len8 (s : ByteArray) (hn : (linesF s).length <= 42) (hs : s.size <= 8192) : (deskRun s).length < 4294967281 := by
 have := deskSt_len8 (linesF s) (by omega) (linesF s).length (Nat.le_refl _)
 rw [List.take_length] at this
 rw [deskRun, if_neg (by omega)]
 omega
def DzRel (K : List Int) (w : World) (av iv : Value) (wr : World) : Prop :=
 ∃ j : Nat, j <= K.length /\ iv = .int .i64 j /\ av = .string (bs (anewT (K.take j))) /\ Kp w wr
theorem anewT_snoc (K : List Int) (j : Nat) (h : j < K.length) : anewT (K.take (j + 1)) = putN K[j] ++ anewT (K.take j) := by
 rw [List.take_succ_eq_append_getElem h, anewT, List.foldl_append]
 rfl
theorem rd_last {w : World} {v : Value} {l : List ByteArray} {n x y : Nat} {t u : ByteArray} (h : RD w eStr v l) (hn : l.length = n) (h1 : l[x]? = some t) (h2 : l[y]? = some u) : n <= maxLen /\ ∃ b o c, v = .slice (some ⟨b, o, none⟩) n c /\ w.cell? ⟨b, o + x, none⟩ = some (.string t) /\ w.cell? ⟨b, o + y, none⟩ = some (.string u) := by
 obtain ⟨A, c, e, h3, h4, _, _⟩ := id h
 subst e
 obtain ⟨hx, rfl⟩ := List.getElem?_eq_some_iff.1 h1
 obtain ⟨hy, rfl⟩ := List.getElem?_eq_some_iff.1 h2
 obtain ⟨b, o, rfl, _, c1⟩ := h.str hx
 obtain ⟨b', o', he, _, c2⟩ := h.str hy
 simp only [Option.some.injEq, Addr.mk.injEq] at he
 obtain ⟨rfl, rfl, _⟩ := he
 exact ⟨by omega, b, o, c, by rw [hn], c1, c2⟩
theorem deskZip_walk (s : ByteArray) (w : World) (hs : s.size < 4294967281) (hm : MaxL w) (ht : T10 w) (hdb : DTb w) : Calls Tryz.prog 3 #[.string s] w (Ret (.bool true) w) := by
 have HM := hide hm
 have HL := hide (deskLines_any s w hs hm)
 have HV := hide (fun w' (k : Kp w w') => deskLives_any w' (hm.kp k) (ht.kp k) (hdb.kp k))
 have HR := hide (fun s (hs : s.size < 4294967281) w' (k : Kp w w') => deskRun_any s w' hs (hm.kp k) (ht.kp k) (hdb.kp k))
 have HSP := hide (fun (s : By) (c : UInt8) (h : s.length < 4294967281) w' (k : Kp w w') => split_any (bs s) ⟨#[c]⟩ w' (by rw [bs_size]; exact h) (Nat.le_refl 1) (hm.kp k))
 clear hm ht hdb hs
 unfold DlPost at HL
 by_cases h1 : 4000 < s.size
 ·have d1 : decide ((4000 : Int) < s.size) = true := decide_eq_true (by omega)
  clear h1
  go_enter Tryz.func3, Tryz.ntmps3
  go_wp2_with fail
  refine HL.out.mono ?_
  rintro e w1 ⟨v, rfl, hr, kk1⟩
  go_wp2_with fail
  refine (HV.out _ kk1).mono ?_
  rintro e w2 ⟨rfl, hb2⟩
  have kk2 := kk1.trans (Kp.of hb2)
  go_wp2_with fail
  refine (HV.out _ kk2).mono ?_
  rintro e w3 ⟨rfl, hb3⟩
  go_wp2
  go_ret
  exact ⟨rfl, (kk2.trans (Kp.of hb3)).bel⟩
 ·have d1 : decide ((4000 : Int) < s.size) = false := decide_eq_false (by omega)
  by_cases h2 : 40 < (linesF s).length
  ·have d2 : decide ((40 : Int) < (linesF s).length) = true := decide_eq_true (by omega)
   obtain ⟨n, hn⟩ : ∃ n, n = (linesF s).length := ⟨_, rfl⟩
   rw [<- hn] at HL d2
   clear h1 h2 hn
   go_enter Tryz.func3, Tryz.ntmps3
   go_wp2_with fail
   refine HL.out.mono ?_
   rintro e w1 ⟨v, rfl, hr, kk1⟩
   go_wp2_with fail
   refine (HV.out _ kk1).mono ?_
   rintro e w2 ⟨rfl, hb2⟩
   have kk2 := kk1.trans (Kp.of hb2)
   go_wp2_with fail
   refine (HV.out _ kk2).mono ?_
   rintro e w3 ⟨rfl, hb3⟩
   go_wp2
   go_ret
   exact ⟨rfl, (kk2.trans (Kp.of hb3)).bel⟩
  ·have d2 : decide ((40 : Int) < (linesF s).length) = false := decide_eq_false (by omega)
   have hs4 : s.size <= 4000 := by omega
   have hA := anew_same s (by omega)
   have hKl := kOrd_len s
   have hAl : (linesF (bs (anewT (kOrd s)))).length <= 40 := by rw [hA.1, List.length_map, List.length_reverse]; omega
   have hAz : (bs (anewT (kOrd s))).size <= 560 := by
    have h9 := anewT_len (kOrd s) (kOrd_in s) []
    rw [bs_size]
    unfold anewT
    simp only [List.length_nil] at h9
    omega
   obtain ⟨X, hX⟩ := split_end s (by omega) (by omega)
   obtain ⟨Y, hY⟩ := split_end (bs (anewT (kOrd s))) (by omega) (by omega)
   have hY2 : sp1 10 [] (deskRun (bs (anewT (kOrd s)) ++ bs endT)) = Y ++ [tzW (ksOf s), rwW (ksOf s), []] := by rw [<- hA.2]; exact hY
   have hX2 : sp1 10 [] (deskRun (s ++ bs endT)) = X ++ [tzW (ksOf s), rwW (ksOf s), []] := hX
   have e15 : (bs endT).size = 15 := rfl
   have z1 : (deskRun (s ++ bs endT)).length < 4294967281 := deskRun_len8 _ (by rw [linesF_end, List.length_append]; simp only [List.length_cons, List.length_nil]; omega) (by rw [ByteArray.size_append]; omega)
   have z2 : (deskRun (bs (anewT (kOrd s)) ++ bs endT)).length < 4294967281 := deskRun_len8 _ (by rw [linesF_end, List.length_append]; simp only [List.length_cons, List.length_nil]; omega) (by rw [ByteArray.size_append]; omega)
   have HS1 := hide (HSP.out (deskRun (s ++ bs endT)) 10 z1)
   have HS2 := hide (HSP.out (deskRun (bs (anewT (kOrd s)) ++ bs endT)) 10 z2)
   rw [splitB_sp, hX2] at HS1
   rw [splitB_sp, hY2] at HS2
   have HR1 := hide (HR.out (s ++ bs endT) (by rw [ByteArray.size_append]; omega))
   have HR2 := hide (HR.out (bs (anewT (kOrd s)) ++ bs endT) (by rw [ByteArray.size_append]; omega))
   have HKI := hide (kOrd_in s)
   have hT : tzW (ksOf s) = wordsF (kOrd s) noneB := rfl
   rw [hT] at HS1 HS2
   have hTl : (wordsF (kOrd s) noneB).length < 4294967281 := by
    have := wordsF_len (kOrd s) (fun x hx => by have := kOrd_in s x hx; omega) (by omega) noneB (by decide)
    omega
   obtain ⟨n, hn⟩ : ∃ n, n = (linesF s).length := ⟨_, rfl⟩
   rw [<- hn] at HL d2
   obtain ⟨R1, hR1⟩ : ∃ R, R = deskRun (s ++ bs endT) := ⟨_, rfl⟩
   rw [<- hR1] at HS1 HR1
   obtain ⟨R2, hR2⟩ : ∃ R, R = deskRun (bs (anewT (kOrd s)) ++ bs endT) := ⟨_, rfl⟩
   rw [<- hR2] at HS2 HR2
   obtain ⟨W, hW⟩ : ∃ W, W = rwW (ksOf s) := ⟨_, rfl⟩
   rw [<- hW] at HS1 HS2
   obtain ⟨K, hK⟩ : ∃ K, K = kOrd s := ⟨_, rfl⟩
   rw [<- hK] at HS1 HS2 HR2 HKI hTl
   have HKL : Hid (K.length <= 40) := hide (by rw [hK]; omega)
   obtain ⟨Tr, hTr⟩ : ∃ T, T = wordsF K noneB := ⟨_, rfl⟩
   rw [<- hTr] at HS1 HS2 hTl
   have HT0 : Hid (K = [] -> Tr = noneB) := hide (fun e => by rw [hTr, e]; rfl)
   have HT1 : Hid (K ≠ [] -> Tr ≠ noneB /\ sp1 32 [] Tr = K.map Lib.itoa) := hide (fun e => by rw [hTr]; exact ⟨tz_none e (fun k hk => (HKI.out k hk).1), tz_words e (fun k hk => (HKI.out k hk).1)⟩)
   have HST : Hid (∀ w', Kp w w' -> Calls Tryz.prog 9 #[.string (bs Tr), .string ⟨#[32]⟩] w' (fun e w'' => ∃ v, e = .returned v /\ RD w'' eStr v ((sp1 32 [] Tr).map bs) /\ Kp w' w'')) := hide (fun w' k => by
    have h := HSP.out Tr 32 hTl w' k
    rw [splitB_sp] at h; exact h)
   obtain ⟨Z1, hZ1⟩ : ∃ Z, Z = (X ++ [Tr, W, []]).map bs := ⟨_, rfl⟩
   obtain ⟨Z2, hZ2⟩ : ∃ Z, Z = (Y ++ [Tr, W, []]).map bs := ⟨_, rfl⟩
   rw [<- hZ1] at HS1
   rw [<- hZ2] at HS2
   obtain ⟨x, hx⟩ : ∃ x, x = X.length := ⟨_, rfl⟩
   obtain ⟨x1, hx1⟩ : ∃ y, y = x + 1 := ⟨_, rfl⟩
   obtain ⟨xn, hxn⟩ : ∃ y, y = x + 3 := ⟨_, rfl⟩
   obtain ⟨y, hy⟩ : ∃ x, x = Y.length := ⟨_, rfl⟩
   obtain ⟨y1, hy1⟩ : ∃ z, z = y + 1 := ⟨_, rfl⟩
   obtain ⟨yn, hyn⟩ : ∃ z, z = y + 3 := ⟨_, rfl⟩
   have HA1 : Hid (Z1.length = xn /\ Z1[x]? = some (bs Tr) /\ Z1[x1]? = some (bs W)) := hide (by rw [hZ1, hxn, hx1, hx]; simp)
   have HA2 : Hid (Z2.length = yn /\ Z2[y]? = some (bs Tr) /\ Z2[y1]? = some (bs W)) := hide (by rw [hZ2, hyn, hy1, hy]; simp)
   have HN : Hid (xn = x + 3 /\ x1 = x + 1 /\ yn = y + 3 /\ y1 = y + 1) := hide ⟨hxn, hx1, hyn, hy1⟩
   have HE0 : Hid (∀ t : By, (s ++ bs endT) = s ++ bs endT) := hide (fun _ => rfl)
   clear h1 h2 hA hKl hAl hAz hX hY hY2 hX2 e15 z1 z2 hT hn hR1 hR2 hW hK HR hTl hTr hZ1 hZ2 hx hx1 hxn hy hy1 hyn HE0 HSP
   go_enter Tryz.func3, Tryz.ntmps3
   go_wp2_with fail
   refine HL.out.mono ?_
   rintro e w1 ⟨v, rfl, hr, kk1⟩
   clear hr
   go_wp2_with fail
   refine (HV.out _ kk1).mono ?_
   rintro e w2 ⟨rfl, hb2⟩
   have kk2 := kk1.trans (Kp.of hb2)
   go_wp2_with fail
   refine (HR1.out _ kk2).mono ?_
   rintro e w3 ⟨rfl, hb3⟩
   have kk3 := kk2.trans hb3
   go_wp2_with fail
   refine (HS1.out _ kk3).mono ?_
   rintro e w4 ⟨v4, rfl, hr4, hb4⟩
   have kk4 := kk3.trans hb4
   obtain ⟨hm4, b4, o4, c4, rfl, q4, p4⟩ := rd_last hr4 HA1.out.1 HA1.out.2.1 HA1.out.2.2
   have hw3 : IntKind.i64.wrap ((xn : Int) - 3) = (x : Int) := by have := HN.out; unfold maxLen at hm4; rw [IntWalk.i64_in _ (by omega)]; omega
   have hw2 : IntKind.i64.wrap ((xn : Int) - 2) = (x1 : Int) := by have := HN.out; unfold maxLen at hm4; rw [IntWalk.i64_in _ (by omega)]; omega
   have d3 : decide ((xn : Int) < 3) = false := decide_eq_false (by have := HN.out; omega)
   have lx : (x : Int) < (xn : Int) := by have := HN.out; omega
   have lx1 : (x1 : Int) < (xn : Int) := by have := HN.out; omega
   clear hr4 hm4 kk1 kk2 kk3 hb2 hb3 hb4
   go_wp2_with fail
   go_quiet (fail)
   obtain ⟨w5, hw5⟩ : ∃ x, x = w4.drewN nq := ⟨_, rfl⟩
   rw [<- hw5]
   have kk5 : Kp w w5 := by rw [hw5]; exact kk4.drewN
   clear hw5 q4 p4 hw3 hw2 d3 lx lx1 kk4
   have hBT : (bs Tr).toList = Tr := by rw [ByteArray.toList_eq]; simp [bs]
   by_cases hK0 : K = []
   ·have dT : ((bs Tr).toList == [110, 111, 110, 101]) = true := by rw [hBT, HT0.out hK0]; decide
    subst hK0
    clear hBT
    go_wp2_with fail
    refine (HR2.out _ kk5).mono ?_
    rintro e w8 ⟨rfl, hb6⟩
    have kk6 : Kp w w8 := kk5.trans hb6
    clear hb6 kk5
    go_wp2_with fail
    refine (HS2.out _ kk6).mono ?_
    rintro e w9 ⟨v9, rfl, hr9, hb9⟩
    have kk9 := kk6.trans hb9
    obtain ⟨hm9, b9, o9, c9, rfl, q9, p9⟩ := rd_last hr9 HA2.out.1 HA2.out.2.1 HA2.out.2.2
    have hv3 : IntKind.i64.wrap ((yn : Int) - 3) = (y : Int) := by have := HN.out; unfold maxLen at hm9; rw [IntWalk.i64_in _ (by omega)]; omega
    have hv2 : IntKind.i64.wrap ((yn : Int) - 2) = (y1 : Int) := by have := HN.out; unfold maxLen at hm9; rw [IntWalk.i64_in _ (by omega)]; omega
    have d4 : decide ((3 : Int) <= (yn : Int)) = true := decide_eq_true (by have := HN.out; omega)
    have ly : (y : Int) < (yn : Int) := by have := HN.out; omega
    have ly1 : (y1 : Int) < (yn : Int) := by have := HN.out; omega
    clear hr9 hm9 hb9 kk6
    go_wp2
    go_ret
    exact ⟨rfl, kk9.bel⟩
   ·obtain ⟨hT2, hT3⟩ := HT1.out hK0
    have dT : ((bs Tr).toList == [110, 111, 110, 101]) = false := by rw [hBT]; exact beq_eq_false_iff_ne.2 hT2
    have HS3 := hide (HST.out w5 kk5)
    rw [hT3] at HS3
    have hl6 : ((K.map Lib.itoa).map bs).length = K.length := by simp
    obtain ⟨L6, hL6⟩ : ∃ L, L = (K.map Lib.itoa).map bs := ⟨_, rfl⟩
    rw [<- hL6] at HS3 hl6
    have HL6 := hide hL6
    have HKN := hide hK0
    clear hBT hT2 hT3 hK0 hL6
    go_wp2_with fail
    refine HS3.out.mono ?_
    rintro e w6 ⟨v6, rfl, hr6, hb6⟩
    have kk6 := kk5.trans hb6
    obtain ⟨A6, c6, rfl, _, _⟩ := hr6.shape
    have HR6 := hide hr6
    rw [hl6] at *
    obtain ⟨m, hm⟩ : ∃ m, m = K.length := ⟨_, rfl⟩
    rw [<- hm]
    have HM := hide hm
    clear hr6 hb6 kk5 hl6 hm
    go_wp2
    go_loopw [9, 55] (DzRel K w6) (fun _ i _ => K.length - (intOf i).toNat)
    case atStart => exact ⟨0, by omega, rfl, rfl, Kp.refl _⟩
    case round =>
     obtain ⟨j, hj, rfl, rfl, hkp⟩ := hrel
     by_cases hlt : j < K.length
     ·have hjl : j < L6.length := by rw [HL6.out]; simpa using hlt
      obtain ⟨b6, o6, rfl, _, x0⟩ := (HR6.out.kp hkp).str hjl
      have eT : L6[j] = bs (Lib.itoa K[j]) := by simp [HL6.out]
      obtain ⟨S6, hS6⟩ : ∃ S, S = L6[j] := ⟨_, rfl⟩
      rw [<- hS6] at x0 eT
      obtain ⟨AN, hAN⟩ : ∃ S, S = bs (anewT (K.take j)) := ⟨_, rfl⟩
      have HNX : Hid (bs (anewT (K.take (j + 1))) = ((⟨#[112, 117, 116, 32]⟩ : ByteArray) ++ S6 ++ ⟨#[32, 48, 10]⟩) ++ AN) := hide (by
       rw [anewT_snoc K j hlt, hAN, eT]
       apply ByteArray.ext
       simp [bs, putN])
      have hS : S6.size <= 21 := by
       rw [eT, bs_size]
       have hk := HKI.out K[j] (List.getElem_mem hlt)
       have h9 := Lib.itoa_length_le K[j] (by omega) (by omega)
       generalize (Lib.itoa K[j]).length = q at h9 ⊢
       omega
      have hA : AN.size <= 600 := by
       rw [hAN, bs_size]
       have h9 := anewT_len (K.take j) (fun k hk => HKI.out k (List.mem_of_mem_take hk)) []
       have h8 := HKL.out
       have h7 : (K.take j).length <= K.length := by rw [List.length_take]; omega
       unfold anewT
       simp only [List.length_nil] at h9
       omega
      have hjm : j < m := by rw [HM.out]; exact hlt
      have hw1 : IntKind.i64.wrap ((j : Int) + 1) = (j : Int) + 1 := IntWalk.i64_in _ (by have := HKL.out; omega)
      rw [<- hAN]
      have HJ : Hid (j < K.length) := hide hlt
      have g1 : ¬ (9223372036854775807 < 4 + S6.size) := by omega
      have g2 : ¬ (9223372036854775807 < 4 + S6.size + 3) := by omega
      have g3 : ¬ (9223372036854775807 < 4 + S6.size + 3 + AN.size) := by omega
      clear eT hS6 hAN hS hA hjl hlt hj
      go_wp2
      refine ⟨⟨j + 1, HJ.out, by go_num, by rw [HNX.out], hkp⟩, ?_⟩
      have := HJ.out
      simp [intOf]; omega
     ·have hjm : j = K.length := by omega
      subst hjm
      rw [List.take_length]
      have hm1 : ¬ K.length < m := by rw [HM.out]; omega
      have hz : ¬ 9223372036854775807 < (bs (anewT K)).size + 15 := by
       rw [bs_size]
       have h9 := anewT_len K HKI.out []
       have h8 := HKL.out
       have h7 : (anewT K).length <= K.length * 14 + 0 := h9
       omega
      have kk7 := kk6.trans hkp
      clear hkp kk6 hlt hj
      go_wp2_with fail
      refine (HR2.out _ kk7).mono ?_
      rintro e w8 ⟨rfl, hb6⟩
      have kk8 : Kp w w8 := kk7.trans hb6
      clear hb6 kk7
      go_wp2_with fail
      refine (HS2.out _ kk8).mono ?_
      rintro e w9 ⟨v9, rfl, hr9, hb9⟩
      have kk9 := kk8.trans hb9
      obtain ⟨hm9, b9, o9, c9, rfl, q9, p9⟩ := rd_last hr9 HA2.out.1 HA2.out.2.1 HA2.out.2.2
      have hv3 : IntKind.i64.wrap ((yn : Int) - 3) = (y : Int) := by have := HN.out; unfold maxLen at hm9; rw [IntWalk.i64_in _ (by omega)]; omega
      have hv2 : IntKind.i64.wrap ((yn : Int) - 2) = (y1 : Int) := by have := HN.out; unfold maxLen at hm9; rw [IntWalk.i64_in _ (by omega)]; omega
      have d4 : decide ((3 : Int) <= (yn : Int)) = true := decide_eq_true (by have := HN.out; omega)
      have ly : (y : Int) < (yn : Int) := by have := HN.out; omega
      have ly1 : (y1 : Int) < (yn : Int) := by have := HN.out; omega
      clear hr9 hm9 hb9 kk8
      go_wp2
      go_ret
      exact ⟨rfl, kk9.bel⟩
end Go.Proofs.YtcljlnagpjilaaaGreatDoor
namespace Go.Proofs.YtcljlnagpjilaaaGreatDoor
open Go.ChangeShapes Go.WideShapes Go.ChangeAt Go.RowKit Go.Deep
theorem deskZip_reads (os : Os) {H : Type} (enc : TypeId × Value -> H) : ∃ places, DataW.whole enc Tryz.prog ((deskWorld os).forCall (fun _ _ => 0) ⟨#[], #[.string ⟨#[]⟩], []⟩).memory Tryz.f3.params.toList Rows.deskZipSpec.vars false #[.string ⟨#[]⟩].toList 8 = some ([.lit (.string [])], [], places) :=
 ⟨[], by kernel_rfl⟩
theorem deskZip_lifted (os : Os) (started : os.Started) (H : Type) (enc : TypeId × Value -> H) (F : Stop.Interp) :
  ReturnsInHanded {} Tryz.checked os 3 .any ((Rows.OpenSpec.upto Rows.deskZipSpec).preRow enc Tryz.prog Tryz.f3 Rows.deskZipUptoRow.domain false Rows.deskZipUptoRow.laid) (((Rows.OpenSpec.upto Rows.deskZipSpec).at F).post enc Tryz.prog Tryz.f3 false true false false) := by
 obtain ⟨places, hx⟩ := deskZip_reads os enc
 refine returnsInHanded_of_row (C := Tryz.checked) (s := Rows.OpenSpec.upto Rows.deskZipSpec) own started (by kernel_rfl) Tryz.func3
  (witness_row_atRef (enc := enc) (C := Tryz.checked) false (deskWorld os) #[.string ⟨#[]⟩] rfl (by kernel_rfl) (by kernel_rfl) (by kernel_rfl)
   (OpenSpec.preRow_of_cond 8 hx (by kernel_rfl) (fun k hk => by cases hk; kernel_rfl) (by kernel_rfl) (desk_met os _))) ?_
 intro W base args ds gs before hval0 hW hcnd hsm hsz hL hsh _
 have hsm := hsm _ rfl
 have hval : ∀ (j : Nat) t v, Tryz.f3.params[j]? = some t -> args[j]? = some v -> Value.okWide Tryz.prog W .any base t v := hval0
 have hW' := hW
 obtain ⟨p, q, hA0, hV, rfl, hfz, hnd⟩ := hW
 have hA : DataW.TrodAll enc Tryz.prog W 0 (fun _ => true) true Tryz.f3.params.toList args.toList ds p := hA0
 rw [Tryz.params3] at hA hval
 obtain ⟨v0, vs0, d0, ds0, p0, q0, hargs, rfl, rfl, h0, r0⟩ := trodAll_cons hA
 obtain ⟨rfl, rfl, rfl⟩ := trodAll_nil r0
 obtain rfl : args = #[v0] := by cases args; simp_all
 obtain ⟨rfl, rfl⟩ := trodVars_none hV
 obtain ⟨s0, rfl, rfl, rfl, w0⟩ := ChangeMaps.open_string Tryz.underlying9 (hval 0 9 v0 rfl rfl) h0
 have b0 : s0.size <= 1048576 := by
  have u2 := upto_part hsm (d := .lit (.string s0.data.toList)) (by simp)
  rw [string_bulk] at u2
  rw [Lib.size_eq]
  omega
 clear hA0 hval0
 refine (deskZip_walk s0 W (by omega) (desk_maxL hsh) (desk_t10 hL) (desk_db hL)).mono fun e W' ⟨he, bel⟩ => ?_
 subst he
 exact ⟨_, rfl, _, _, _, [], _, [], hW', trodAll_mk1 (shut_bool Tryz.underlying4 _), (trodAll_cons_mk (ChangeMaps.shut_string Tryz.underlying9 w0) trodAll_mk0), rfl, bel.frame _, fun h => by cases h⟩
theorem deskZip_closed : joinedFacts Tryz.checked.prog 3 Tryz.f3 (Rows.OpenSpec.upto Rows.deskZipSpec).bare Rows.deskZipUptoRow = true := by
 unfold joinedFacts
 repeat' (with_reducible refine and_true_of ?_ ?_)
 all_goals (as_aux_lemma => kernel_rfl)
theorem deskZip_over : Rows.deskZipUptoRow.holds Tryz.pinned (Rows.OpenSpec.upto Rows.deskZipSpec) :=
 OpenClaim.holds_of_cond 3 Tryz.f3 rfl rfl rfl rfl rfl rfl rfl ⟨rfl, rfl, rfl, rfl, rfl⟩ rfl rfl rfl rfl rfl (by as_aux_lemma => kernel_rfl) Tryz.func3 deskZip_closed
  (of_decide_eq_true (by as_aux_lemma => kernel_rfl)) (by as_aux_lemma => unfold Func.isWrapper; first | (rw [if_pos (by decide +kernel)]; kernel_rfl) | (rw [if_neg (by decide +kernel)]; exact ⟨rfl, rfl⟩))
  (fun os started H enc _ F => by rw [OpenClaim.pre_eq_preRow]; exact deskZip_lifted os started H enc F)
theorem deskZip_proved : Rows.DeskZipUptoCardSaid :=
 Claim7.holds_tied_plain_at .later [] _ _ _ _ deskZip_over (fun _ h => by cases h) (by kernel_rfl) (fun _ h => by cases h) deskZipUpto_row_tie rfl ⟨rfl, rfl⟩ (by kernel_rfl) rfl
  (fun f fn hf hfn => by
   obtain rfl : f = 3 := Option.some.inj ((show Tryz.prog.funcNamed "hedgewright/hedgkeep.DeskZip" = some 3 by kernel_rfl).symm.trans hf) |>.symm
   obtain rfl : fn = Tryz.f3 := (Option.some.inj (Tryz.func3.symm.trans hfn)).symm
   exact ⟨by kernel_rfl, fun j t ht => by
    have h : (Tryz.f3.params.toList.all fun t => !Tryz.prog.wantsStandIn t) = true := by kernel_rfl
    have hm : t ∈ Tryz.f3.params.toList := by
     rw [Array.mem_toList_iff]
     exact Array.mem_of_getElem? ht
    have h2 : Tryz.prog.wantsStandIn t = false := by simpa using List.all_eq_true.1 h t hm
    exact h2⟩)
  (by kernel_rfl)
end Go.Proofs.YtcljlnagpjilaaaGreatDoor
