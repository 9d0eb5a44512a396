/-
  hedglaw.Names: the walk: it answers true. Conditions: none.
-/
import Derived.Test.YtkfgpoeodpndlaaSame
import Derived.Test.YtkfgpoeodpndlaaOwn
namespace Go.Proofs.Ytkfgpoeodpndlaa
open Go.ChangeShapes Go.WideShapes Go.ChangeAt Go.RowKit
set_option linter.unusedVariables false
set_option linter.unusedSimpArgs false

theorem RD.blockE {α : Type} {w : World} {E : Enc α} {g n : Nat} {cs : Array Value} {t : TypeId} (l : List α) (hg : w.heap.size = g) (hl : cs.toList = l.flatMap E.cells) (hn : l.length = n) (hm : n ≤ maxLen) :
    RD (w.alloc (.cells cs t)) E (.slice (some ⟨g, 0, none⟩) n n) l := by
  subst hg hn
  exact RD.block l (heap_alloc_new w _) hl hm
def few : List Int := [1, 2, 3, 4, 5, 6, 7, 1, 2, 3, 4, 1, 2, 3]
def lims : List Int := [1000000, 200, 300, 12, 20, 65535, 500, 4000]
def nmL : List Int := [0, 1, 2, 3, 4, 5]
def NmRel (w : World) (i : Value) (wr : World) : Prop := ∃ k : Nat, k ≤ 6 ∧ i = .int .i64 k ∧ w = wr
set_option maxRecDepth 100000 in
set_option maxHeartbeats 1000000 in
theorem names_walk (w : World) : Calls Try.prog 9 #[] w (Ret (.bool true) w) := by
  go_enter Try.func9, Try.ntmps9
  go_wp2
  go_loopw [7] (NmRel (w.alloc (.cells #[.int .i64 0, .int .i64 1, .int .i64 2, .int .i64 3, .int .i64 4, .int .i64 5] 25))) (fun i _ => 6 - (intOf i).toNat)
  case atStart => exact ⟨0, by omega, rfl, rfl⟩
  case round =>
    obtain ⟨k, hk, rfl, rfl⟩ := hrel
    by_cases hlt : k < 6
    · have hc : (w.alloc (.cells #[.int .i64 0, .int .i64 1, .int .i64 2, .int .i64 3, .int .i64 4, .int .i64 5] 25)).cell? ⟨w.heap.size, k, none⟩ = some (.int .i64 (k : Int)) := by
        have h := (RD.block (E := eInt) (l := nmL) (heap_alloc_new w (.cells #[.int .i64 0, .int .i64 1, .int .i64 2, .int .i64 3, .int .i64 4, .int .i64 5] 25)) rfl (by simp [nmL, maxLen])).int (k := k) (by simpa [nmL] using hlt)
        obtain ⟨b, o, e, _, h⟩ := h
        injection e with e
        injection e with e1 e2
        subst e1 e2
        rw [Nat.zero_add] at h
        rw [h]
        have : k = 0 ∨ k = 1 ∨ k = 2 ∨ k = 3 ∨ k = 4 ∨ k = 5 := by omega
        rcases this with rfl | rfl | rfl | rfl | rfl | rfl <;> rfl
      have hne : ((k : Int) != (k : Int)) = false := by simp
      go_wp2
      go_roundw
      case rel => exact ⟨k + 1, by omega, by go_num, rfl⟩
      case measure => simp [intOf]; omega
    · obtain rfl : k = 6 := by omega
      obtain ⟨W, hW⟩ : ∃ W, W = w.alloc (.cells #[.int .i64 0, .int .i64 1, .int .i64 2, .int .i64 3, .int .i64 4, .int .i64 5] 25) := ⟨_, rfl⟩
      have HK : Hid (Kp w W) := hide (by rw [hW]; exact (Kp.refl w).alloc)
      rw [← hW]
      clear hW
      go_wp2_with fail
      have HF := hide (fun W1 v u h1 h2 => eqInts_to few few true v u W1 h1 h2 (by simp))
      have HG := hide (fun W1 v u h1 h2 => eqInts_to lims lims true v u W1 h1 h2 (by simp))
      refine (HF.out _ _ _ (RD.alloc (RD.alloc (RD.blockE few rfl rfl rfl (by simp [maxLen, few, lims, nmL])) _) _) (RD.blockE few (by simp) rfl rfl (by simp [maxLen, few, lims, nmL]))).mono ?_
      rintro e w2 ⟨rfl, hb2⟩
      have HL : Hid (RD w2 eInt (.slice (some ⟨W.heap.size + 1, 0, none⟩) 8 8) lims) := hide (RD.below (RD.alloc (RD.blockE lims (by simp) rfl rfl (by simp [maxLen, few, lims, nmL])) _) hb2)
      have k2 : Kp W w2 := (((Kp.refl W).alloc).alloc).alloc.trans hb2
      clear hb2
      go_wp2_with fail
      refine (HG.out _ _ _ (HL.out.alloc _) (RD.blockE lims rfl rfl rfl (by simp [maxLen, few, lims, nmL]))).mono ?_
      rintro e w3 ⟨rfl, hb3⟩
      go_wp2
      go_ret
      exact ⟨rfl, ((HK.out.trans k2).trans ((Kp.refl w2).alloc.trans hb3)).bel⟩
end Go.Proofs.Ytkfgpoeodpndlaa
