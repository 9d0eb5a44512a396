/-
  What goat.Run leaves is a right tree of the keys that are there
-/
import Derived.Test.YtcljlnagpjilaaaGreatDoorG25

set_option linter.unusedVariables false
set_option linter.unusedSimpArgs false
set_option maxRecDepth 100000
set_option maxHeartbeats 8000000
namespace Go.Proofs.YtcljlnagpjilaaaGreatDoor
open Go.ChangeShapes Go.WideShapes Go.ChangeAt Go.RowKit
theorem gt_end (ops : List O3) : GtRun (runL ops).1 (gtT (opsZ ops)) (ctT (opsZ ops)) := by
 have h := gt_step ops ops.length (Nat.le_refl _)
 have hal := runL_len ops ops.length (Nat.le_refl _)
 rw [List.take_length] at hal
 have hzl : (opsZ ops).length = ops.length := by rw [opsZ, List.length_zip, hal]; omega
 rw [List.take_length, List.take_of_length_le (show (opsZ ops).length <= ops.length by omega)] at h
 exact h
theorem even_right (ks : List Int) (hl : ks.length <= 200) (hu : ks.Pairwise (· < ·)) (hk : ∀ x ∈ ks, 0 <= x /\ x <= 1000000) : (parOf ((evenT ks).spotsBy Prod.fst 0)).2 = 0 /\ ((evenT ks).spotsBy Prod.fst 0).map Prod.fst = ks := by
 have e : keysM Prod.fst (evenT ks) = ks := evenT_keys ks
 refine ⟨?_, by rw [spotsBy_keys, e]⟩
 rw [spotsBy_right Prod.fst _ (by rw [evenT_size]; exact hl) (by rw [e]; exact hu) (by rw [e]; exact hk)]
theorem goat_right (ops : List O3) : (parOf ((gtT (opsZ ops)).T.spotsBy Prod.fst 0)).2 = 0 /\ ((gtT (opsZ ops)).T.spotsBy Prod.fst 0).map Prod.fst = (runL ops).1.map Prod.fst := by
 have h := gt_end ops
 have h1 : keysM Prod.fst (gtT (opsZ ops)).T = (runL ops).1.map Prod.fst := h.keys
 have hl := mapRight_len _ h.right
 refine ⟨?_, by rw [spotsBy_keys, h1]⟩
 rw [spotsBy_right Prod.fst _ (by rw [<- keysM_len Prod.fst, h1, List.length_map]; exact hl) h.ok.up ?_]
 rw [h1]
 intro x hx
 obtain ⟨y, hy, rfl⟩ := List.mem_map.1 hx
 exact mapRight_in _ h.right y hy
end Go.Proofs.YtcljlnagpjilaaaGreatDoor
