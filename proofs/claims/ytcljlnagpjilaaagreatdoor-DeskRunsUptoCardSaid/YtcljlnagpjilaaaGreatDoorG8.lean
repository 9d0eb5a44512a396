/-
  slices.Clone at pairs and spots: what it answers
-/
import Derived.Test.YtcljlnagpjilaaaGreatDoorG6

set_option linter.unusedVariables false
set_option linter.unusedSimpArgs false
set_option maxRecDepth 100000
set_option maxHeartbeats 8000000
namespace Go.Proofs.YtcljlnagpjilaaaGreatDoor
open Go.ChangeShapes Go.WideShapes Go.ChangeAt Go.RowKit
theorem clonePairs_any (l : List IP) (v : Value) (w : World) (hr : RD w ePair v l) (hn : l.length <= 1000000) : Calls Tryz.prog 107 #[v] w (RetOW 141 ePair l w) := by
 obtain ⟨A, c, rfl, hc, hm, hA, h3⟩ := id hr
 have he := fun W => Lib.run_eql_slice_nil (P := Tryz.prog) W 37 141 A l.length c 0 0 Tryz.underlying37
 have HR := hide hr
 clear hr h3
 cases A with
 | none =>
  have hc0 : c = 0 := hA rfl
  have hl : l = [] := List.eq_nil_of_length_eq_zero (by omega)
  subst hl
  subst hc0
  clear hA
  simp only [List.length_nil] at he ⊢
  go_enter Tryz.func107, Tryz.ntmps107
  go_wp2
  go_ret
  exact ⟨_, rfl, OW.nil, Below.refl _ _⟩
 | some a =>
  have HM1 : Hid ((([] : List IP).length + l.length) * 16 <= 140737488355328) := hide (by simp; omega)
  have HM2 : Hid (([] : List IP).length + l.length <= maxLen) := hide (by simp [maxLen]; omega)
  have HE : Hid (OW (w.alloc (.cells #[] 141)) w.heap.size 141 ePair (.slice (some ⟨w.heap.size, 0, none⟩) 0 0) ([] : List IP)) := hide (OW.empty (Nat.le_refl _))
  have HHI : Hi w.heap.size (.slice (some ⟨w.heap.size, 0, none⟩) 0 0) := fun k hk => by simp [Value.ownBlock] at hk; omega
  clear hA
  go_enter Tryz.func107, Tryz.ntmps107
  go_wp2_with (at_builtin; (with_reducible refine list_app (B := w.heap.size) (l := ([] : List IP)) (m := l) row_pair (.slice (some ⟨w.heap.size, 0, none⟩) 0 0) ?_ (.tmp 5) (.tmp 6) ?_ ?_ ?_ ?_ HM1.out HM2.out ?_ ?_); (with_reducible rfl); (with_reducible rfl); rfl; (exact HE.out); (show RD _ _ (.slice (some a) l.length c) _; exact HR.out.alloc _); (simp); intro v3 w3 ho3 hg3 hat3)
  go_ret
  exact ⟨_, rfl, ho3, (Kp.app hg3 (Kp.refl w).alloc HHI).bel⟩
end Go.Proofs.YtcljlnagpjilaaaGreatDoor
