/-
  hedgkeep.ZipPuts: the walk: it answers true. Conditions: the keys read as ints (RD); the table of math/bits holds what it is laid with (DTb).
-/
import Derived.Test.YtfgbbmjnjppfnaaDoorZLaw2
import Derived.Test.YtfgbbmjnjppfnaaDoorZLives
namespace Go.Proofs.YtfgbbmjnjppfnaaDoor
open Go.ChangeShapes Go.WideShapes Go.ChangeAt Go.RowKit
set_option linter.unusedVariables false
set_option linter.unusedSimpArgs false

def krF : Int → List Int → Int
  | _, [] => 0
  | la, x :: t => if la + 1 ≤ x ∧ x ≤ 1000000 then krF x t else 3
def krL (l : List Int) : Int := if l.length > 200 then 2 else krF (-1) l
def KrRel (l : List Int) (w : World) (lv iv : Value) (wr : World) : Prop := ∃ (k : Nat) (la : Int), k ≤ l.length ∧ iv = .int .i64 k ∧ lv = .int .i64 la ∧ -1 ≤ la ∧ la ≤ 1000000 ∧ krF la (l.drop k) = krF (-1) l ∧ w = wr
set_option maxRecDepth 100000 in
set_option maxHeartbeats 2000000 in
theorem keysRight_any (l : List Int) (v : Value) (w : World) (hr : RD w eInt v l) : Calls Tryd.prog 24 #[v] w (Ret (.int .i64 (krL l)) w) := by
  obtain ⟨A, c, rfl, hc, hm⟩ := hr.shape
  by_cases hlen : l.length > 200
  · have H1 : Hid (krL l = 2) := hide (by rw [krL, if_pos hlen])
    clear hr
    go_enter Tryd.func24, Tryd.ntmps24
    go_wp2
    go_ret
    exact ⟨by rw [H1.out]; rfl, Below.refl _ _⟩
  · have H0 : Hid (krL l = krF (-1) l) := hide (by rw [krL, if_neg hlen])
    have HR := hide hr
    clear hr
    go_enter Tryd.func24, Tryd.ntmps24
    go_wp2
    go_loopw [3, 11] (KrRel l w) (fun _ i _ => l.length - (intOf i).toNat)
    case atStart => exact ⟨0, -1, by omega, rfl, rfl, by omega, by omega, rfl, rfl⟩
    case round =>
      obtain ⟨k, la, hk, rfl, rfl, g1, g2, he, rfl⟩ := hrel
      by_cases hlt : k < l.length
      · obtain ⟨b, o, rfl, _, c0⟩ := HR.out.int hlt
        rw [List.drop_eq_getElem_cons hlt, krF] at he
        obtain ⟨y, hy⟩ : ∃ y, y = l[k] := ⟨_, rfl⟩
        rw [← hy] at c0 he
        have hwl : IntKind.i64.wrap (la + 1) = la + 1 := IntWalk.i64_in _ (by omega)
        by_cases hb : la + 1 ≤ y ∧ y ≤ 1000000
        · rw [if_pos hb] at he
          have HE := hide he
          have HBT := hide ((btw_iff y (la + 1) 1000000).2 hb)
          have hy1 : -1 ≤ y := by omega
          have hy2 : y ≤ 1000000 := hb.2
          clear hb he hy
          go_wp2_with (go_at_call 12; refine (between_to _ _ _ true _ HBT.out).mono ?_; rintro e w' ⟨rfl, rfl⟩)
          go_roundw
          case rel => exact ⟨k + 1, y, by omega, by go_num, rfl, hy1, hy2, HE.out, rfl⟩
          case measure => simp [intOf]; omega
        · rw [if_neg hb] at he
          have H1 : Hid (krL l = 3) := hide (by rw [H0.out, ← he])
          have HBT := hide ((btw_f_iff y (la + 1) 1000000).2 hb)
          clear hb he hy
          go_wp2_with (go_at_call 12; refine (between_to _ _ _ false _ HBT.out).mono ?_; rintro e w' ⟨rfl, rfl⟩)
          go_ret
          exact ⟨by rw [H1.out]; rfl, Below.refl _ _⟩
      · rw [List.drop_eq_nil_of_le (by omega)] at he
        have H1 : Hid (krL l = 0) := hide (by rw [H0.out, ← he]; rfl)
        clear he
        go_wp2
        go_ret
        exact ⟨by rw [H1.out]; rfl, Below.refl _ _⟩
def IxRel (l : List Int) (y : Int) (w : World) (iv : Value) (wr : World) : Prop := ∃ k : Nat, k ≤ l.length ∧ iv = .int .i64 k ∧ y ∉ l.take k ∧ w = wr
set_option maxRecDepth 100000 in
set_option maxHeartbeats 1000000 in
theorem index_any (l : List Int) (y : Int) (v : Value) (w : World) (hr : RD w eInt v l) : Calls Tryd.prog 47 #[v, .int .i64 y] w fun e w' => ∃ i : Int, e = .returned (.int .i64 i) ∧ (0 ≤ i ↔ y ∈ l) ∧ w = w' := by
  obtain ⟨A, c, rfl, hc, hm⟩ := hr.shape
  have HR := hide hr
  clear hr
  go_enter Tryd.func47, Tryd.ntmps47
  go_wp2
  go_loopw [8] (IxRel l y w) (fun i _ => l.length - (intOf i).toNat)
  case atStart => exact ⟨0, by omega, rfl, by simp, rfl⟩
  case round =>
    obtain ⟨k, hk, rfl, hno, rfl⟩ := hrel
    have HNO := hide hno
    clear hno
    by_cases hlt : k < l.length
    · obtain ⟨b, o, rfl, _, c0⟩ := HR.out.int hlt
      have HT : Hid (l.take (k + 1) = l.take k ++ [l[k]]) := hide (List.take_succ_eq_append_getElem hlt)
      have HMM : Hid (l[k] ∈ l) := hide (List.getElem_mem hlt)
      obtain ⟨x, hx⟩ : ∃ x, x = l[k] := ⟨_, rfl⟩
      rw [← hx] at c0 HT HMM
      clear hx
      by_cases hxy : y = x
      · have b0 : (y == x) = true := by simp [hxy]
        have HXY := hide hxy
        clear hxy
        go_wp2
        go_ret
        exact ⟨(k : Int), rfl, ⟨fun _ => by rw [HXY.out]; exact HMM.out, fun _ => by omega⟩, rfl⟩
      · have b0 : (y == x) = false := by simpa using hxy
        have HXY := hide hxy
        clear hxy
        go_wp2
        go_roundw
        case rel => exact ⟨k + 1, by omega, by go_num, by rw [HT.out]; simp only [List.mem_append, List.mem_singleton]; rintro (h | h); exact HNO.out h; exact HXY.out h, rfl⟩
        case measure => simp [intOf]; omega
    · have HN : Hid (y ∉ l) := hide (by have := HNO.out; rwa [List.take_of_length_le (by omega)] at this)
      go_wp2
      go_ret
      exact ⟨-1, rfl, ⟨fun h => by omega, fun h => absurd h HN.out⟩, rfl⟩
set_option maxRecDepth 100000 in
set_option maxHeartbeats 1000000 in
theorem contains_any (l : List Int) (y : Int) (v : Value) (w : World) (hr : RD w eInt v l) : Calls Tryd.prog 25 #[v, .int .i64 y] w (Ret (.bool (decide (y ∈ l))) w) := by
  have HI := hide (index_any l y v w hr)
  clear hr
  go_enter Tryd.func25, Tryd.ntmps25
  go_wp2_with fail
  with_reducible refine HI.out.mono ?_
  rintro e w1 ⟨i, rfl, hi, rfl⟩
  have HD : Hid (decide (y ∈ l) = decide (0 ≤ i)) := hide (by simp [hi])
  clear hi
  go_wp2
  go_ret
  exact ⟨by rw [HD.out]; rfl, Below.refl _ _⟩

set_option maxRecDepth 100000 in
set_option maxHeartbeats 8000000 in
theorem zipPuts_walk (l : List Int) (key : Int) (v : Value) (w : World) (hr : RD w eInt v l) (hkey : -9223372036854775808 ≤ key ∧ key ≤ 9223372036854775807) (hdb : DTb w) : Calls Tryd.prog 6 #[v, .int .i64 key] w (Ret (.bool true) w) := by
  obtain ⟨A, c, rfl, hc, hm⟩ := hr.shape
  have HR := hide hr
  have HDB := hide hdb
  have HKR := hide (fun W v h => keysRight_any l v W h)
  have HCO := hide (fun W v h => contains_any l key v W h)
  clear hr hkey hdb
  by_cases h0 : krL l = 0
  · have hlen : l.length ≤ 200 := by
      unfold krL at h0
      split at h0
      · omega
      · omega
    rw [h0] at HKR
    by_cases hin : key ∈ l
    · rw [decide_eq_true hin] at HCO
      clear h0 hin
      go_enter Tryd.func6, Tryd.ntmps6
      go_wp2_with fail
      with_reducible refine (zipLives_any _ HDB.out).mono ?_
      rintro e w1 ⟨rfl, hb1⟩
      have kk1 := Kp.of hb1
      clear hb1
      go_wp2_with fail
      with_reducible refine (HKR.out _ _ (HR.out.kp kk1)).mono ?_
      rintro e w2 ⟨rfl, hb2⟩
      have kk2 := Kp.of hb2
      clear hb2
      go_wp2_with fail
      with_reducible refine (HCO.out _ _ (HR.out.kp (kk1.trans kk2))).mono ?_
      rintro e w3 ⟨rfl, hb3⟩
      have kk3 := Kp.of hb3
      clear hb3
      go_wp2_with fail
      with_reducible refine (zipLives_any _ (HDB.out.kp (kk1.trans (kk2.trans kk3)))).mono ?_
      rintro e w4 ⟨rfl, hb4⟩
      have kk4 := Kp.of hb4
      clear hb4
      go_wp2
      go_ret
      exact ⟨by simp, (kk1.trans (kk2.trans (kk3.trans kk4))).bel⟩
    · rw [decide_eq_false hin] at HCO
      have hlA : (l.map pO).length = l.length := by simp
      have hlB : (l.map pO ++ [(1, key, 0), (3, key, 0)]).length = l.length + 2 := by simp
      have hzA : zipRun (l.map pO) = ((zrT (opsA (l.map pO))).spotsBy Prod.fst 0, (runL (l.map pO)).2, 0) := by rw [zipRun, if_neg (by omega)]
      have hzB : zipRun (l.map pO ++ [(1, key, 0), (3, key, 0)]) = ((zrT (opsA (l.map pO))).spotsBy Prod.fst 0, (runL (l.map pO ++ [(1, key, 0), (3, key, 0)])).2, 0) := by
        rw [zipRun, if_neg (by omega)]
        have := zip_back l key 0 hin
        rw [List.append_assoc] at this
        rw [show l.map pO ++ [(1, key, 0), (3, key, 0)] = l.map (fun k => ((1, k, 0) : O3)) ++ ([(1, key, 0)] ++ [(3, key, 0)]) from rfl, this]
        rfl
      have hAN := runL_len (l.map pO ++ [(1, key, 0), (3, key, 0)]) _ (Nat.le_refl _)
      rw [List.take_length, hlB] at hAN
      have HPU := hide (fun W v h => putAll_any l v W h (by omega))
      have HRA := hide (fun W v h hd => zipRun_any (l.map pO) v W h hd)
      have HRB := hide (fun W v h hd => zipRun_any (l.map pO ++ [(1, key, 0), (3, key, 0)]) v W h hd)
      rw [hzA] at HRA
      rw [hzB] at HRB
      obtain ⟨S, hS⟩ : ∃ S, S = (zrT (opsA (l.map pO))).spotsBy Prod.fst 0 := ⟨_, rfl⟩
      obtain ⟨AN, hA2⟩ : ∃ AN, AN = (runL (l.map pO)).2 := ⟨_, rfl⟩
      obtain ⟨AM, hA3⟩ : ∃ AM, AM = (runL (l.map pO ++ [(1, key, 0), (3, key, 0)])).2 := ⟨_, rfl⟩
      rw [← hS, ← hA2] at HRA
      rw [← hS, ← hA3] at HRB
      rw [← hA3] at hAN
      obtain ⟨L, hL⟩ : ∃ L, L = l.map pO := ⟨_, rfl⟩
      rw [← hL] at HPU HRA HRB hlA
      have HM1 : Hid ((L.length + [((1, key, 0) : O3), (3, key, 0)].length) * 24 ≤ 140737488355328) := hide (by simp; omega)
      have HM2 : Hid (L.length + [((1, key, 0) : O3), (3, key, 0)].length ≤ maxLen) := hide (by simp [maxLen]; omega)
      have hbe : ((AM.length : Int) == (l.length : Int) + 2) = true := by simp; omega
      have hwl : IntKind.i64.wrap ((l.length : Int) + 2) = (l.length : Int) + 2 := IntWalk.i64_in _ (by omega)
      have hok : okL [0, 0] = true := rfl
      have hl200 : decide ((200 : Int) < (l.length : Int)) = false := by simp; omega
      clear h0 hin hlA hlB hzA hzB hS hA2 hA3 hL hAN
      go_enter Tryd.func6, Tryd.ntmps6
      go_wp2_with fail
      with_reducible refine (zipLives_any _ HDB.out).mono ?_
      rintro e w1 ⟨rfl, hb1⟩
      have kk1 := Kp.of hb1
      clear hb1
      go_wp2_with fail
      with_reducible refine (HKR.out _ _ (HR.out.kp kk1)).mono ?_
      rintro e w2 ⟨rfl, hb2⟩
      have kk2 := Kp.of hb2
      clear hb2
      go_wp2_with fail
      with_reducible refine (HCO.out _ _ (HR.out.kp (kk1.trans kk2))).mono ?_
      rintro e w3 ⟨rfl, hb3⟩
      have kk3 := Kp.of hb3
      have K3 := kk1.trans (kk2.trans kk3)
      clear hb3 kk1 kk2 kk3
      go_wp2_with fail
      with_reducible refine (HPU.out _ _ (HR.out.kp K3)).mono ?_
      rintro e w4 ⟨v4, rfl, ho4, hb4⟩
      have kk4 := Kp.of hb4
      have HR4 := hide ho4.rd
      clear ho4 hb4
      go_wp2_with fail
      with_reducible refine (HRA.out _ _ HR4.out (HDB.out.kp (K3.trans kk4))).mono ?_
      rintro e w5 ⟨v5, u5, rfl, hr5, hu5, hb5⟩
      have kk5 := Kp.of hb5
      have K5 := K3.trans (kk4.trans kk5)
      have HR5 := hide hr5
      obtain ⟨A5, c5, rfl, _, _⟩ := hr5.shape
      clear hr5 hu5 hb5 kk4 kk5 HR4
      go_wp2_with fail
      with_reducible refine (HPU.out _ _ (HR.out.kp K5)).mono ?_
      rintro e w6 ⟨v6, rfl, ho6, hb6⟩
      have kk6 := Kp.of hb6
      have hi6 := ho6.hi
      have HO6 := hide ho6
      obtain ⟨A6, N6, c6, rfl⟩ := ho6.rd.slice
      have hz56 := kk6.size
      clear ho6 hb6
      go_wp2_with ((at_builtin; (with_reducible refine list_app (B := w5.heap.size) (l := L) (m := [((1, key, 0) : O3), (3, key, 0)]) row_opZ (.slice A6 N6 c6) ?_ (.tmp 38) (.tmp 43) ?_ ?_ ?_ ?_ HM1.out HM2.out ?_ ?_); (with_reducible rfl); (with_reducible rfl); rfl; (exact HO6.out.alloc _); (show RD _ _ (.slice (some ⟨_, 0, none⟩) 2 2) _; exact (RD.block (l := [((1, key, 0) : O3), (3, key, 0)]) (heap_alloc_new w6 _) rfl (by simp [maxLen]))); (simp; omega); intro v7 w7 ho7 hg7 hat7))
      have kk7 : Kp w5 w7 := Kp.app hg7 kk6.alloc hi6
      have HR7 := hide ho7.rd
      clear hg7 hat7 ho7
      with_reducible refine (HRB.out _ _ HR7.out (HDB.out.kp (K5.trans kk7))).mono ?_
      rintro e w8 ⟨v8, u8, rfl, hr8, hu8, hb8⟩
      have kk8 := Kp.of hb8
      have HR8 := hide hr8
      obtain ⟨A8, c8, rfl, _, _⟩ := hr8.shape
      obtain ⟨B8, d8, rfl, _, _⟩ := hu8.shape
      clear hr8 hu8 hb8
      go_wp2_with fail
      refine (ok_any [0, 0] _ _ (RD.block (l := [0, 0]) (heap_alloc_new w8 _) rfl (by simp [maxLen]))).mono ?_
      rintro e w9 ⟨rfl, hw9⟩
      have kk9 : Kp w8 w9 := by rw [← hw9]; exact (Kp.refl w8).alloc
      clear hw9
      go_wp2_with fail
      with_reducible refine (eqSpots_to S S true _ _ _ (HR5.out.kp (kk7.trans (kk8.trans kk9))) (HR8.out.kp kk9) (by simp)).mono ?_
      rintro e w10 ⟨rfl, hb10⟩
      have kk10 := Kp.of hb10
      go_wp2
      go_ret
      exact ⟨by simp, (K5.trans (kk7.trans (kk8.trans (kk9.trans kk10)))).bel⟩
  · obtain ⟨y, hy⟩ : ∃ y, y = krL l := ⟨_, rfl⟩
    rw [← hy] at HKR h0
    have b0 : (y != 0) = true := by simpa using h0
    clear h0 hy
    go_enter Tryd.func6, Tryd.ntmps6
    go_wp2_with fail
    with_reducible refine (zipLives_any _ HDB.out).mono ?_
    rintro e w1 ⟨rfl, hb1⟩
    have kk1 := Kp.of hb1
    clear hb1
    go_wp2_with fail
    with_reducible refine (HKR.out _ _ (HR.out.kp kk1)).mono ?_
    rintro e w2 ⟨rfl, hb2⟩
    have kk2 := Kp.of hb2
    clear hb2
    go_wp2_with fail
    with_reducible refine (zipLives_any _ (HDB.out.kp (kk1.trans kk2))).mono ?_
    rintro e w3 ⟨rfl, hb3⟩
    have kk3 := Kp.of hb3
    clear hb3
    go_wp2
    go_ret
    exact ⟨by simp, (kk1.trans (kk2.trans kk3)).bel⟩
end Go.Proofs.YtfgbbmjnjppfnaaDoor
