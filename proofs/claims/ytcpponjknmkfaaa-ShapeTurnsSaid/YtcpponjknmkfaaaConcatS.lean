/-
  slices.Grow of nil, slices.Concat of spots: what they answer. Conditions: the parts read as lists, of fewer than 2^30 elements together.
-/
import Derived.Test.YtcpponjknmkfaaaConcat
namespace Go.Proofs.Ytcpponjknmkfaaa
open Go.ChangeShapes Go.WideShapes Go.ChangeAt Go.RowKit
set_option linter.unusedVariables false
set_option linter.unusedSimpArgs false

set_option maxRecDepth 100000 in
set_option maxHeartbeats 1000000 in
theorem grow_Spot (n : Nat) (hn : n * 16 ≤ 140737488355328) (w : World) : Calls Try.prog 57 #[.slice none 0 0, .int .i64 (n : Int)] w (RetOW 41 ePair [] w) := by
  by_cases h0 : n = 0
  · subst h0
    go_enter Try.func57, Try.ntmps57
    go_wp2
    go_ret
    exact ⟨_, rfl, OW.nil, Below.refl _ _⟩
  · obtain ⟨i, hi, h1, h2, h3⟩ := info_parts info_spot
    have hrz := fun ty => Lib.run_append_nil_zeros (P := Try.prog) w 22 3 ty 41 i _ .i64 .i64 Try.underlying22 Try.underlying3 hi h1 n (by omega) (by rw [h2]; decide) (by omega) (by rw [h3]; omega)
    have hG := grownCap_ge w n 0 41
    have hG2 := grownCap_le_maxLen w n 0 41 (by unfold maxLen; omega)
    obtain ⟨G, hGe⟩ : ∃ G, G = grownCap w n 0 41 := ⟨_, rfl⟩
    rw [← hGe] at hG hG2
    simp only [← hGe] at hrz
    obtain ⟨C, hC⟩ : ∃ C, C = Builtin.zeroCells (Value.agg #[.int .i64 0, .int .i64 0]).cells n ++ Builtin.zeroCells (Value.agg #[.int .i64 0, .int .i64 0]).cells (G - n) := ⟨_, rfl⟩
    simp only [← hC] at hrz
    have hCs : Hid (C.size = G * 2) := hide (by rw [hC, Array.size_append, size_zeroCells, size_zeroCells]; simp [Value.cells]; omega)
    have HG := hide hG2
    have hGG : G ≤ 9223372036854775807 := by unfold maxLen at hG2; omega
    have hnn : (0 : Int) < (n : Int) := by omega
    clear hGe hC hG2
    go_enter Try.func57, Try.ntmps57
    go_wp2_with (at_builtin; refine Lib.wpList_append_run _ rfl _ _ _ _ rfl _ _ rfl rfl _ _ (hrz _) ?_)
    all_goals (go_ret; exact ⟨_, rfl, ⟨rfl, .inr ⟨w.heap.size, G, C, rfl, Nat.le_refl _, heap_alloc_new w.drew _, Nat.zero_le _, HG.out, hCs.out, by simp⟩⟩, ((Kp.refl w).drew.alloc).bel⟩)

def CSumSpot (ls : List (List IP)) (w : World) (sv iv : Value) (wr : World) : Prop :=
  ∃ k : Nat, k ≤ ls.length ∧ iv = .int .i64 k ∧ sv = .int .i64 (fl ls k : Nat) ∧ Kp w wr
def CAppSpot (ls : List (List IP)) (w0 : World) (sv iv : Value) (wr : World) : Prop :=
  ∃ k : Nat, k ≤ ls.length ∧ iv = .int .i64 k ∧ OW wr w0.heap.size 41 ePair sv (ls.take k).flatten ∧ Kp w0 wr
set_option maxRecDepth 100000 in
set_option maxHeartbeats 2000000 in
theorem concat_Spot (ls : List (List IP)) (v : Value) (w : World) (hr : RDS w ePair v ls) (hlen : ls.flatten.length ≤ 1073741824) : Calls Try.prog 52 #[v] w (RetOW 41 ePair ls.flatten w) := by
  obtain ⟨A, c, rfl, hc, hm⟩ := hr.shape
  have HR := hide hr
  have HF := hide (fl_le ls)
  have hfa : fl ls ls.length ≤ 1073741824 := by rw [fl_all]; exact hlen
  clear hr
  go_enter Try.func52, Try.ntmps52
  go_wp2
  go_loopw [3, 11] (CSumSpot ls w) (fun _ i _ => ls.length - (intOf i).toNat)
  case atStart => exact ⟨0, by omega, rfl, rfl, Kp.refl _⟩
  case round =>
    obtain ⟨k, hk, rfl, rfl, hkp0⟩ := hrel
    by_cases hlt : k < ls.length
    · obtain ⟨b, o, u, rfl, hb, cu, hu⟩ := (HR.out.kp hkp0).at_ hlt
      obtain ⟨A2, c2, rfl, hc2, hm2⟩ := hu.shape
      have hs1 := fl_succ ls k hlt
      have hs2 := HF.out (k + 1)
      have hs3 := HF.out k
      have HS1 := hide hs1
      have b1 : (0 : Int) ≤ (fl ls k : Int) := by omega
      have b2 : (fl ls k : Int) + (ls[k].length : Int) ≤ 1073741824 := by omega
      clear hs1 hs2 hs3 hu
      go_wp2
      go_roundw
      case rel => exact ⟨k + 1, by omega, by go_num, by rw [HS1.out]; go_num, hkp0⟩
      case measure => simp [intOf]; omega
    · have hkl : (ls.take k).flatten = ls.flatten := by rw [List.take_of_length_le (by omega)]
      have hs3 := HF.out k
      have HK := hide hkl
      have HFA := hide hfa
      clear hkl
      go_wp2_with fail
      refine (grow_Spot (fl ls k) (by omega) _).mono ?_
      rintro e w1 ⟨v1, rfl, ho1, hb1⟩
      have HO1 := hide ho1
      clear ho1 hs3
      go_wp2
      have hb1' : Kp w w1 := hkp0.trans hb1
      go_loopw [6, 27] (CAppSpot ls w) (fun _ i _ => ls.length - (intOf i).toNat)
      case atStart => exact ⟨0, by omega, rfl, HO1.out.more hkp0.size, hb1'⟩
      case round =>
        obtain ⟨j, hj, rfl, ho, hkp⟩ := hrel
        have hi := ho.hi
        by_cases hltj : j < ls.length
        · obtain ⟨b, o, u, rfl, hb, cu, hu⟩ := (HR.out.kp hkp).at_ hltj
          have hs1 := fl_succ ls j hltj
          have hs2 := HF.out (j + 1)
          have HM1 : Hid (((ls.take j).flatten.length + ls[j].length) * 16 ≤ 140737488355328) := hide (by have := HFA.out; have h9 : fl ls j = (ls.take j).flatten.length := rfl; omega)
          have HM2 : Hid ((ls.take j).flatten.length + ls[j].length ≤ maxLen) := hide (by have := HFA.out; have h9 : fl ls j = (ls.take j).flatten.length := rfl; unfold maxLen; omega)
          have HF2 : Hid ((ls.take j).flatten ++ ls[j] = (ls.take (j + 1)).flatten) := hide (by rw [List.take_succ_eq_append_getElem hltj, List.flatten_append, List.flatten_cons, List.flatten_nil, List.append_nil])
          obtain ⟨A6, c6, hv6, hc6, hm6⟩ := ho.rd.shape
          have hv6' : u6 = .slice A6 (fl ls j) c6 := hv6
          subst hv6'
          clear hv6
          obtain ⟨A2, c2, rfl, hc2, hm2⟩ := hu.shape
          clear hs1 hs2
          go_wp2_with (at_builtin; (with_reducible refine list_app (B := w.heap.size) (l := (ls.take j).flatten) (m := ls[j]) row_spot (.slice A6 (fl ls j) c6) ?_ (.tmp 31) (.tmp 32) ?_ ?_ ?_ ?_ HM1.out HM2.out ?_ ?_); (with_reducible rfl); (with_reducible rfl); rfl; (with_reducible assumption); (show RD _ _ (.slice A2 ls[j].length c2) _; with_reducible assumption); (exact hkp.size); intro v3 w3 ho3 hg3 hat3)
          go_roundw
          case rel => exact ⟨j + 1, by omega, by go_num, by rw [← HF2.out]; exact ho3, (by (focus ((repeat (first | (with_reducible assumption) | (with_reducible exact Kp.refl _) | (with_reducible apply Kp.drew) | (with_reducible apply Kp.drewN) | ((with_reducible apply Kp.setR); (focus (first | (with_reducible assumption) | (simp; done) | (simp; omega)))) | (with_reducible apply Kp.alloc) | ((with_reducible apply Kp.call); (with_reducible assumption)) | ((with_reducible apply Kp.app); (with_reducible assumption)))); done)))⟩
          case measure => simp [intOf]; omega
        · have hjl : (ls.take j).flatten = ls.flatten := by rw [List.take_of_length_le (by omega)]
          have HJ := hide hjl
          clear hjl
          go_wp2
          go_ret
          exact ⟨_, rfl, by rw [← HJ.out]; exact ho, hkp.bel⟩
end Go.Proofs.Ytcpponjknmkfaaa
