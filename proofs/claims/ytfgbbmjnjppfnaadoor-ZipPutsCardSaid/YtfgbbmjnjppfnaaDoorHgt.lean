/-
  skip.Height: what it answers. Conditions: the table of math/bits holds what it is laid with (DTb).
-/
import Derived.Test.YtfgbbmjnjppfnaaDoorArr
namespace Go.Proofs.YtfgbbmjnjppfnaaDoor
open Go.ChangeShapes Go.WideShapes Go.ChangeAt Go.RowKit
set_option linter.unusedVariables false
set_option linter.unusedSimpArgs false

def dbTab : List Int := [0, 1, 56, 2, 57, 49, 28, 3, 61, 58, 42, 50, 38, 29, 17, 4, 62, 47, 59, 36, 45, 43, 51, 22, 53, 39, 33, 30, 24, 18, 12, 5, 63, 55, 48, 27, 60, 41, 37, 16, 46, 35, 44, 21, 52, 32, 23, 11, 54, 26, 40, 15, 34, 20, 31, 10, 25, 14, 19, 9, 13, 8, 7, 6]
/-- The table of math/bits lies in the first block. -/
def DTb (w : World) : Prop := ∀ i : Nat, i < 64 → w.cell? ⟨0, i, none⟩ = some (.int .u8 (dbTab.getD i 0))
theorem DTb.kp {w w' : World} (h : DTb w) (hk : Kp w w') : DTb w' := fun i hi => hk.cell (h i hi)
def x1 (x : Int) : Int := bits .xor .u64 x (x / 1073741824)
def x2 (x : Int) : Int := IntKind.u64.wrap (x1 x * 13787848793156543929)
def x3 (x : Int) : Int := bits .xor .u64 (x2 x) (x2 x / 134217728)
def x4 (x : Int) : Int := IntKind.u64.wrap (x3 x * 10723151780598845931)
def mixF (x : Int) : Int := bits .xor .u64 (x4 x) (x4 x / 2147483648)
set_option maxRecDepth 100000 in
theorem mixed_any (x : Int) (w : World) : Calls Tryd.prog 49 #[.int .u64 x] w fun e w' => e = .returned (.int .u64 (mixF x)) ∧ w = w' := by
  go_enter Tryd.func49, Tryd.ntmps49
  go_wp2
  go_ret
  exact ⟨rfl, rfl⟩
def tzI (x : Int) : Int := IntKind.u64.wrap (bits .and .u64 x (IntKind.u64.wrap (-x)) * 285870213051353865) / 288230376151711744
def tzF (x : Int) : Int := if x = 0 then 64 else dbTab.getD (tzI x).toNat 0
theorem dbTab_in : ∀ i, 0 ≤ dbTab.getD i 0 ∧ dbTab.getD i 0 ≤ 63 := by
  intro i
  by_cases h : i < 64
  · have : ∀ i : Fin 64, 0 ≤ dbTab.getD i.val 0 ∧ dbTab.getD i.val 0 ≤ 63 := by decide
    exact this ⟨i, h⟩
  · rw [List.getD_eq_getElem?_getD, List.getElem?_eq_none (by simp [dbTab]; omega)]; decide
theorem tzI_in (x : Int) : 0 ≤ tzI x ∧ tzI x < 64 := by
  unfold tzI
  obtain ⟨y, hy⟩ : ∃ y, y = IntKind.u64.wrap (bits .and .u64 x (IntKind.u64.wrap (-x)) * 285870213051353865) := ⟨_, rfl⟩
  rw [← hy]
  have : 0 ≤ y ∧ y < 18446744073709551616 := by
    rw [hy]
    simp only [IntKind.wrap, IntKind.signed, IntKind.bits]
    simp
    omega
  omega
theorem tzF_in (x : Int) : 0 ≤ tzF x ∧ tzF x ≤ 64 := by
  unfold tzF
  split
  · omega
  · have := dbTab_in (tzI x).toNat; omega
set_option maxRecDepth 100000 in
theorem tz_any (x : Int) (w : World) (h : DTb w) : Calls Tryd.prog 48 #[.int .u64 x] w fun e w' => e = .returned (.int .i64 (tzF x)) ∧ w = w' := by
  by_cases h0 : x = 0
  · subst h0
    go_enter Tryd.func48, Tryd.ntmps48
    go_wp2
    go_ret
    exact ⟨rfl, rfl⟩
  · have H1 : Hid (tzF x = dbTab.getD (tzI x).toNat 0) := hide (by rw [tzF, if_neg h0])
    obtain ⟨p, hp⟩ : ∃ p, IntKind.u64.wrap (bits .and .u64 x (IntKind.u64.wrap (-x)) * 285870213051353865) = p := ⟨_, rfl⟩
    obtain ⟨g1, g2⟩ := tzI_in x
    obtain ⟨j, hj⟩ : ∃ j : Nat, tzI x = (j : Int) := ⟨(tzI x).toNat, by omega⟩
    have hq : p / 288230376151711744 = (j : Int) := by rw [← hj, tzI, hp]
    have hj64 : (j : Int) < 64 := by omega
    have hj0 : (0 : Int) ≤ (j : Int) := by omega
    have c0 := h j (by omega)
    have H2 : Hid (tzF x = dbTab.getD j 0) := hide (by rw [H1.out, hj]; rfl)
    have hd := dbTab_in j
    obtain ⟨y, hy⟩ : ∃ y, dbTab.getD j 0 = y := ⟨_, rfl⟩
    rw [hy] at c0 H2 hd
    obtain ⟨d1, d2⟩ := hd
    have b0 : (x == 0) = false := by simpa using h0
    clear g1 g2 hj hy h
    go_enter Tryd.func48, Tryd.ntmps48
    go_wp2
    go_ret
    exact ⟨by rw [H2.out]; rfl, rfl⟩
def hgtF (key : Int) : Int := if 12 < tzF (mixF (IntKind.u64.wrap key)) + 1 then 12 else tzF (mixF (IntKind.u64.wrap key)) + 1
theorem hgtF_in (key : Int) : 1 ≤ hgtF key ∧ hgtF key ≤ 12 := by
  have := tzF_in (mixF (IntKind.u64.wrap key))
  unfold hgtF
  split <;> omega
set_option maxRecDepth 100000 in
theorem height_any (key : Int) (w : World) (h : DTb w) : Calls Tryd.prog 28 #[.int .i64 key] w fun e w' => e = .returned (.int .i64 (hgtF key)) ∧ w = w' := by
  obtain ⟨q, hq⟩ : ∃ q, IntKind.u64.wrap key = q := ⟨_, rfl⟩
  have H1 : Hid (hgtF key = if 12 < tzF (mixF q) + 1 then 12 else tzF (mixF q) + 1) := hide (by rw [hgtF, hq])
  have HM := hide (fun W => mixed_any q W)
  obtain ⟨m, hm⟩ : ∃ m, m = mixF q := ⟨_, rfl⟩
  rw [← hm] at HM H1
  have HT := hide (fun W h => tz_any m W h)
  obtain ⟨g1, g2⟩ := tzF_in m
  obtain ⟨t, ht⟩ : ∃ t, t = tzF m := ⟨_, rfl⟩
  rw [← ht] at HT H1 g1 g2
  obtain ⟨M, hM⟩ : ∃ M, (if (12 : Int) < t + 1 then (12 : Int) else t + 1) = M := ⟨_, rfl⟩
  rw [hM] at H1
  have HD := hide h
  clear h hm ht
  go_enter Tryd.func28, Tryd.ntmps28
  go_wp2_with fail
  with_reducible refine (HM.out _).mono ?_
  rintro e w1 ⟨rfl, rfl⟩
  go_wp2_with fail
  with_reducible refine (HT.out _ HD.out).mono ?_
  rintro e w1 ⟨rfl, rfl⟩
  go_wp2
  go_ret
  exact ⟨by rw [H1.out]; rfl, rfl⟩
end Go.Proofs.YtfgbbmjnjppfnaaDoor
