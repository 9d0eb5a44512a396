/-
  hedgref.deskLine: tree, deep, and whatever is none: what it answers
-/
import Derived.Test.YtcljlnagpjilaaaGreatDoorG45

set_option linter.unusedVariables false
set_option linter.unusedSimpArgs false
set_option maxRecDepth 100000
set_option maxHeartbeats 8000000
namespace Go.Proofs.YtcljlnagpjilaaaGreatDoor
open Go.ChangeShapes Go.WideShapes Go.ChangeAt Go.RowKit
theorem told1_walk {t : T} (h : (parOf (t.spots 0)).2 = 0) : NN (told1 t) /\ (told1 t).length <= 1000000 := by
 obtain ⟨h1, h2, _⟩ := parOf_len _ h
 have e := order_telD h
 rw [orderOf, if_neg (by rw [h]; decide), if_pos rfl] at e
 injection e with e
 rw [<- e]
 refine ⟨fun x hx => ?_, by rw [walkF_len]; omega⟩
 have := walk_in h2 x hx
 omega
structure LkT (ks : List Int) (ops : List O3) (s : By) (t : T) : Prop where
 tree : treeS ks ops s = .ok (t.spots 0)
 order : orderOf (t.spots 0) 1 = (told1 t, 0)
 sum : sumOf (t.spots 0) = (mostL (t.spots 0), allL (t.spots 0), 0)
 size : t.size <= 200
 nn : NN (told1 t) /\ (told1 t).length <= 1000000
 deep : ∀ p ∈ t.spots 0, 0 <= p.2 /\ p.2 < 200
theorem link_some {l : List IP} {ops : List O3} (h : DkIn l ops) (hn : ops.length <= 300) {s : By} {t : T} (ht : refT (l.map Prod.fst) ops s = some t) : LkT (l.map Prod.fst) ops s t := by
 have := tree_link h hn s
 rw [ht] at this
 obtain ⟨h1, h2⟩ := this
 exact ⟨h1, order_telD h2, sum_told h2, spots_size h2, told1_walk h2, fun p hp => by
  obtain ⟨k, hk, rfl⟩ := List.mem_iff_getElem.1 hp
  exact gv_bound _ h2 k hk⟩
theorem line_tree {ks : List Int} {ops : List O3} {ws : List ByteArray} {t : T} (h : LkT ks ops (wAt ws 1) t) (hn2 : ¬ ws.length ≠ 2) (h1 : wAt ws 0 = treeB) : lineS ks ops ws = .ok (wordsF (told1 t) noneB) := by
 rw [lineS, if_neg (fun e => hn2 (fun e2 => by omega)), if_neg hn2, if_neg (by rw [h1]; decide), if_pos h1, h.tree]
 simp only
 rw [h.order, if_pos rfl]
end Go.Proofs.YtcljlnagpjilaaaGreatDoor
