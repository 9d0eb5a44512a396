/-
  Plain laws: a list is zipped when it is read; Split and Merge answer the trees of the keys. No program. Conditions: none.
  Rows that lie apart: what an append to one leaves of another. Conditions: none.
  The lesser and the other keys of a list, and a loop that parts them. No program. Conditions: none.
-/
import Derived.Test.YtfgbbmjnjppfnaaDoorZipPartsM13
import Derived.Test.YtfgbbmjnjppfnaaDoorZipPartsM16
import Derived.Test.YtfgbbmjnjppfnaaDoorZipPartsM2
import Derived.Test.YtfgbbmjnjppfnaaDoorZipPartsM1

namespace Go.Proofs.YtfgbbmjnjppfnaaDoor
open Go.ChangeShapes Go.WideShapes Go.ChangeAt Go.RowKit
set_option linter.unusedVariables false
set_option linter.unusedSimpArgs false

theorem nd_len : ∀ t : MT IP, (nd t).length = t.size
  | .nil => rfl
  | .node a l r => by simp [nd, MT.size, nd_len l, nd_len r]; omega
theorem ZI.size {T : MT IP} {ks : List Int} (h : ZI T ks) : T.size = ks.length := by rw [← nd_len, h.nd_, List.length_map]
theorem ZI.heap {T : MT IP} {ks : List Int} (h : ZI T ks) : heapTree (ks.map zk) = skZ T := by
  rw [← h.nd_]; exact heapTree_nd _ h.hp (by rw [h.nd_]; exact zk_up h.up)
theorem ZI.spots {T : MT IP} {ks : List Int} (h : ZI T ks) : (heapTree (ks.map zk)).spots 0 = T.spotsBy Prod.fst 0 := by rw [h.heap, skZ_spots]
theorem ksIns_last {ks : List Int} {k : Int} (h : ∀ x ∈ ks, x < k) : ksIns ks k = ks ++ [k] := by
  rw [ksIns, filter_all (fun x hx => by simpa using h x hx), filter_no (fun x hx => by have := h x hx; simp; omega), List.append_nil]
theorem zi_ex (ks : List Int) (h : Up ks) : ∃ T, ZI T ks := by
  have : ∀ n, n ≤ ks.length → ∃ T, ZI T (ks.take n) := by
    intro n
    induction n with
    | zero => intro _; exact ⟨.nil, by simp [nd], trivial, by simp [Up]⟩
    | succ n ih =>
      intro hn
      obtain ⟨T, hT⟩ := ih (by omega)
      have h2 := hT.put ks[n]
      rw [ksIns_last, ← List.take_succ_eq_append_getElem (by omega)] at h2
      · exact ⟨_, h2⟩
      · intro x hx
        obtain ⟨i, hi, rfl⟩ := List.mem_iff_getElem.1 hx
        rw [List.getElem_take]
        simp at hi
        exact (List.pairwise_iff_getElem.1 h) i n (by omega) (by omega) (by omega)
  obtain ⟨T, hT⟩ := this ks.length (Nat.le_refl _)
  rw [List.take_length] at hT
  exact ⟨T, hT⟩
theorem par_up {l : List IP} (h0 : (parOf l).2 = 0) : Up (l.map Prod.fst) ∧ (∀ k ∈ l.map Prod.fst, 0 ≤ k ∧ k ≤ 1000000) ∧ l.length ≤ 200 := by
  obtain ⟨hlen, hmr, _⟩ := parOf_len l h0
  refine ⟨?_, fun k hk => ?_, hlen⟩
  · rw [Up, List.pairwise_iff_getElem]
    intro i j hi hj hij
    simp only [List.length_map] at hi hj
    simp only [List.getElem_map]
    exact mapRight_rise l hmr i j hi hj hij
  · obtain ⟨x, hx, rfl⟩ := List.mem_map.1 hk
    exact mapRight_in l hmr x hx
theorem readZ_err (l : List IP) : (readZ l).2 = if (parOf l).2 ≠ 0 then (parOf l).2 else if zipOk l = true then 0 else 3 := by
  by_cases h0 : (parOf l).2 = 0
  · rw [if_neg (by simp [h0])]
    obtain ⟨hup, hin, hlen⟩ := par_up h0
    by_cases hz : zipOk l = true
    · rw [if_pos hz]
      obtain ⟨T, hT⟩ := zi_ex _ hup
      have hs := of_decide_eq_true hz
      rw [hT.spots] at hs
      obtain ⟨_, B, hB, _⟩ := readZ_spots hT (by rw [hT.size]; simpa using hlen) hin
      rw [← hs] at hB
      rw [hB]
    · rw [if_neg hz]
      have : (readZ l).2 ≠ 0 := fun h => by
        obtain ⟨hT, hs, _⟩ := readZ_facts h
        apply hz
        rw [zipOk, decide_eq_true_eq, hT.spots, hs]
      unfold readZ at this ⊢
      rw [if_neg (by simp [h0])] at this ⊢
      split
      · next hk =>
        rw [if_pos hk] at this
        split at this
        · exact absurd rfl this
        · exact absurd rfl this
      · rfl
  · rw [if_pos h0, readZ, if_pos h0]
theorem zrR_one (l : List IP) : zrR [l] = (readZ l).2 := by
  rw [readZ_err, zrR, errF, errF, formF, formF]
  by_cases h0 : (parOf l).2 = 0
  · simp [h0]
  · simp [h0]
def zrTwo (a b : List IP) : Int := if (parOf a).2 ≠ 0 then (parOf a).2 else if (parOf b).2 ≠ 0 then (parOf b).2 else if (readZ a).2 ≠ 0 ∨ (readZ b).2 ≠ 0 then 3 else 0
theorem zrR_two (a b : List IP) : zrR [a, b] = zrTwo a b := by
  rw [zrTwo, readZ_err, readZ_err, zrR, errF, errF, errF, formF, formF, formF]
  by_cases h0 : (parOf a).2 = 0 <;> by_cases h1 : (parOf b).2 = 0 <;> by_cases h2 : zipOk a = true <;> by_cases h3 : zipOk b = true <;> simp [h0, h1, h2, h3]
/-- What Split says, by the trees of the keys. -/
theorem split_says (l : List IP) (key : Int) : splitZ l key = if zrR [l] ≠ 0 then ([], [], zrR [l]) else if btw key 0 1000000 = false then ([], [], 1) else
    ((heapTree (((l.map Prod.fst).filter (fun x => decide (x < key))).map zk)).spots 0, (heapTree (((l.map Prod.fst).filter (fun x => !decide (x < key))).map zk)).spots 0, 0) := by
  rw [zrR_one]
  by_cases hr : (readZ l).2 = 0
  · rw [if_neg (by simp [hr])]
    by_cases hk : key < 0 ∨ 1000000 < key
    · rw [splitZ, if_neg (by simp [hr]), if_pos hk, if_pos (by simp [btw]; omega)]
    · rw [splitZ, if_neg (by simp [hr]), if_neg hk, if_neg (by simp [btw]; omega)]
      obtain ⟨z, hsp, hlen, hsz, hin⟩ := readZ_facts hr
      obtain ⟨M, hM⟩ : ∃ M, M = mapZ (readZ l).1 := ⟨_, rfl⟩
      rw [← hM] at z hsp hsz ⊢
      have hu : UpN (nd M) := by rw [z.nd_]; exact zk_up z.up
      obtain ⟨e1, e2⟩ := nd_unz M key hu
      obtain ⟨i1, i2⟩ := hp_unz M key hu z.hp
      have hn1 : nd (unz M key).1 = ((l.map Prod.fst).filter (fun x => decide (x < key))).map zk := by rw [e1, z.nd_, List.filter_map]; simp [Function.comp_def, zk] <;> rfl
      have hn2 : nd (unz M key).2 = ((l.map Prod.fst).filter (fun x => !decide (x < key))).map zk := by rw [e2, z.nd_, List.filter_map]; simp [Function.comp_def, zk] <;> rfl
      have z1 : ZI (unz M key).1 _ := ⟨hn1, i1, z.up.filter _⟩
      have z2 : ZI (unz M key).2 _ := ⟨hn2, i2, z.up.filter _⟩
      rw [z1.spots, z2.spots]
  · rw [if_pos hr, splitZ, if_pos hr]
/-- Is there a key in a list that is not more than the one ahead of it? -/
def notUp (l : List Int) (n : Nat) : Bool := (List.range n).any fun j => decide (0 < j) && decide (l.getD j 0 ≤ l.getD (j - 1) 0)
theorem notUp_succ (l : List Int) (n : Nat) : notUp l (n + 1) = (notUp l n || (decide (0 < n) && decide (l.getD n 0 ≤ l.getD (n - 1) 0))) := by
  rw [notUp, List.range_succ, List.any_append]; simp [notUp]
theorem notUp_iff (l : List Int) : notUp l l.length = false ↔ Up l := by
  constructor
  · intro h
    rw [notUp, List.any_eq_false] at h
    rw [Up, List.pairwise_iff_getElem]
    intro i j
    induction j with
    | zero => intro _ _ h; omega
    | succ j ih =>
      intro hi hj hij
      have h1 := h (j + 1) (by simpa using hj)
      simp [List.getD_eq_getElem?_getD, List.getElem?_eq_getElem hj, List.getElem?_eq_getElem (show j < l.length by omega)] at h1
      by_cases e : i = j
      · subst e; exact h1
      · have := ih hi (by omega) (by omega)
        omega
  · intro h
    rw [notUp, List.any_eq_false]
    intro j hj
    have hj : j < l.length := by simpa using hj
    rw [Up, List.pairwise_iff_getElem] at h
    by_cases h0 : 0 < j
    · have := h (j - 1) j (by omega) hj (by omega)
      simp [List.getD_eq_getElem?_getD, List.getElem?_eq_getElem hj, List.getElem?_eq_getElem (show j - 1 < l.length by omega)]
      omega
    · simp [h0]
theorem bad_up {a b : List IP} (ha : Up (a.map Prod.fst)) (hb : Up (b.map Prod.fst)) : badZ a b = notUp ((a ++ b).map Prod.fst) ((a ++ b).map Prod.fst).length := by
  have key : badZ a b = false ↔ Up ((a ++ b).map Prod.fst) := by
    rw [List.map_append, Up, List.pairwise_append]
    rcases List.eq_nil_or_concat a with rfl | ⟨a', x, rfl⟩
    · simp [badZ]; exact hb
    · cases b with
      | nil => simp [badZ]; simpa [Up] using ha
      | cons y b' =>
        have hbz : badZ (a'.concat x) (y :: b') = decide (y.1 ≤ x.1) := by simp [badZ]
        rw [hbz, decide_eq_false_iff_not]
        constructor
        · intro h
          refine ⟨ha, hb, fun p hp q hq => ?_⟩
          rw [List.concat_eq_append, List.map_append, Up, List.pairwise_append] at ha
          rw [List.map_cons, Up, List.pairwise_cons] at hb
          rw [List.concat_eq_append, List.map_append] at hp
          have h1 : p ≤ x.1 := by
            rcases List.mem_append.1 hp with hp | hp
            · exact Int.le_of_lt (ha.2.2 p hp x.1 (by simp))
            · simp at hp; omega
          have h2 : y.1 ≤ q := by
            rcases List.mem_cons.1 hq with rfl | hq
            · exact Int.le_refl _
            · exact Int.le_of_lt (hb.1 q hq)
          omega
        · rintro ⟨_, _, h⟩
          have := h x.1 (by simp) y.1 (by simp)
          omega
  rw [← notUp_iff] at key
  cases h1 : badZ a b <;> cases h2 : notUp ((a ++ b).map Prod.fst) ((a ++ b).map Prod.fst).length <;> simp_all
def msay (a b : List IP) : Int := if zrR [a, b] ≠ 0 then zrR [a, b] else if notUp ((a ++ b).map Prod.fst) ((a ++ b).map Prod.fst).length = true then 3 else if 200 < a.length + b.length then 2 else 0
theorem merge_says (a b : List IP) : mergeZ a b = if msay a b ≠ 0 then ([], msay a b) else ((heapTree (((a ++ b).map Prod.fst).map zk)).spots 0, 0) := by
  rw [msay, zrR_two, zrTwo, mergeZ]
  by_cases h0 : (parOf a).2 = 0
  · by_cases h1 : (parOf b).2 = 0
    · simp only [h0, h1, ne_eq, not_true_eq_false, if_false]
      by_cases h2 : (readZ a).2 = 0
      · by_cases h3 : (readZ b).2 = 0
        · obtain ⟨ua, _, _⟩ := par_up h0
          obtain ⟨ub, _, _⟩ := par_up h1
          simp only [h2, h3, not_true_eq_false, false_or, if_false, ne_eq]
          rw [← bad_up ua ub]
          by_cases h4 : badZ a b = true
          · simp [h4]
          · by_cases h5 : 200 < a.length + b.length
            · simp [h4, h5]
            · simp only [h4, h5, if_false, not_true_eq_false]
              obtain ⟨z, _⟩ := readZ_facts h2
              obtain ⟨y, _⟩ := readZ_facts h3
              have hup : Up ((a ++ b).map Prod.fst) := by rw [← notUp_iff, ← bad_up ua ub]; simpa using h4
              obtain ⟨M, hM⟩ : ∃ M, M = mapZ (readZ a).1 := ⟨_, rfl⟩
              obtain ⟨O, hO⟩ : ∃ O, O = mapZ (readZ b).1 := ⟨_, rfl⟩
              rw [← hM] at z ⊢
              rw [← hO] at y ⊢
              have hc : ∀ x ∈ nd M, ∀ y ∈ nd O, x.1 < y.1 := by
                rw [z.nd_, y.nd_]
                rw [List.map_append, Up, List.pairwise_append] at hup
                intro p hp q hq
                obtain ⟨p', hp', rfl⟩ := List.mem_map.1 hp
                obtain ⟨q', hq', rfl⟩ := List.mem_map.1 hq
                exact hup.2.2 p' hp' q' hq'
              have zz : ZI (zipM M O) ((a ++ b).map Prod.fst) := ⟨by rw [nd_zip _ _ _ (Nat.le_refl _), z.nd_, y.nd_, ← List.map_append, ← List.map_append], hp_zip _ _ _ (Nat.le_refl _) z.hp y.hp hc, hup⟩
              rw [zz.spots]
              simp
        · simp [h3]
      · simp [h2]
    · simp [h0, h1]
  · simp [h0]
/-- What Run leaves is the tree of the map's keys. -/
theorem run_says (ops : List O3) : (heapTree (((runL ops).1.map Prod.fst).map zk)).spots 0 = (zrT (opsA ops)).spotsBy Prod.fst 0 := (zip_inv_all ops).spots
end Go.Proofs.YtfgbbmjnjppfnaaDoor
namespace Go.Proofs.YtfgbbmjnjppfnaaDoor
open Go.ChangeShapes Go.WideShapes Go.ChangeAt Go.RowKit
set_option linter.unusedVariables false
set_option linter.unusedSimpArgs false

def Ap (n : Nat) (u v : Value) : Prop := 0 < n → u.ownBlock = none ∨ u.ownBlock ≠ v.ownBlock
theorem RD.app {α : Type} {E : Enc α} {w w' : World} {v u : Value} {l : List α} (h : RD w E v l) (hg : w.grownBy w' u.ownBlock) (ha : Ap l.length v u) : RD w' E v l := by
  cases l with
  | nil =>
    obtain ⟨A, c, rfl, h1, h2, hn, h3⟩ := h
    exact ⟨A, c, rfl, h1, h2, hn, fun h => by simp at h⟩
  | cons a t =>
    have h4 := ha (by simp)
    obtain ⟨A, c, rfl, h1, h2, hn, h3⟩ := h
    obtain ⟨b, o, rfl, hb, hc⟩ := h3 (by simp)
    refine RD.grownR hg ?_ ⟨_, c, rfl, h1, h2, hn, h3⟩
    rcases h4 with h4 | h4
    · simp [Value.ownBlock] at h4
    · exact h4
theorem Ap.next {n : Nat} {w : World} {v u u' : Value} (h : Ap n v u) (hu : u'.ownBlock = u.ownBlock ∨ u'.ownBlock = some w.heap.size) (hv : 0 < n → Lo w.heap.size v) : Ap n v u' := fun h0 => by
  rcases hu with hu | hu
  · rw [hu]; exact h h0
  · rw [hu]
    cases hb : v.ownBlock with
    | none => exact .inl rfl
    | some k =>
      refine .inr fun e => ?_
      injection e with e
      have := hv h0 k hb
      omega

/-- Rows that lie apart. -/
def Dis (u v : Value) : Prop := ∀ k, u.ownBlock = some k → v.ownBlock ≠ some k
theorem Dis.symm {u v : Value} (h : Dis u v) : Dis v u := fun k h1 h2 => h k h2 h1
theorem Dis.or {u v : Value} (h : Dis u v) : u.ownBlock = none ∨ u.ownBlock ≠ v.ownBlock := by
  cases hu : u.ownBlock with
  | none => exact .inl rfl
  | some k => exact .inr fun e => h k hu e.symm
theorem Dis.next {u u' v : Value} {n : Nat} (h : Dis u v) (hu : u'.ownBlock = u.ownBlock ∨ u'.ownBlock = some n) (hv : Lo n v) : Dis u' v := fun k h1 h2 => by
  rcases hu with e | e
  · exact h k (by rw [← e]; exact h1) h2
  · rw [e] at h1
    injection h1 with h1
    have := hv k h2
    omega
end Go.Proofs.YtfgbbmjnjppfnaaDoor
namespace Go.Proofs.YtfgbbmjnjppfnaaDoor
open Go.ChangeShapes Go.WideShapes Go.ChangeAt Go.RowKit
set_option linter.unusedVariables false
set_option linter.unusedSimpArgs false

def lessL (x : Int) (l : List Int) : List Int := l.filter fun k => decide (k < x)
def moreL (x : Int) (l : List Int) : List Int := l.filter fun k => !decide (k < x)
theorem lessL_len (x : Int) (l : List Int) : (lessL x l).length ≤ l.length := List.length_filter_le _ _
theorem moreL_len (x : Int) (l : List Int) : (moreL x l).length ≤ l.length := List.length_filter_le _ _
theorem parts_len (x : Int) : ∀ l : List Int, (lessL x l).length + (moreL x l).length = l.length
  | [] => rfl
  | y :: t => by
    have := parts_len x t
    unfold lessL moreL at this ⊢
    by_cases h : y < x <;> simp [List.filter_cons, h] <;> omega
theorem lessL_snoc (x : Int) (l : List Int) (k : Nat) (h : k < l.length) : lessL x (l.take (k + 1)) = lessL x (l.take k) ++ if l[k] < x then [l[k]] else [] := by
  rw [List.take_succ_eq_append_getElem h, lessL, lessL, List.filter_append]
  congr 1
  by_cases hd : l[k] < x <;> simp [hd]
theorem moreL_snoc (x : Int) (l : List Int) (k : Nat) (h : k < l.length) : moreL x (l.take (k + 1)) = moreL x (l.take k) ++ if l[k] < x then [] else [l[k]] := by
  rw [List.take_succ_eq_append_getElem h, moreL, moreL, List.filter_append]
  congr 1
  by_cases hd : l[k] < x <;> simp [hd]
def SoRel (x : Int) (t : List Int) (w : World) (lv mv iv : Value) (wr : World) : Prop :=
  ∃ k : Nat, k ≤ t.length ∧ iv = .int .i64 k ∧ OW wr w.heap.size 3 eInt lv (lessL x (t.take k)) ∧ OW wr w.heap.size 3 eInt mv (moreL x (t.take k)) ∧ Dis lv mv ∧ Kp w wr
end Go.Proofs.YtfgbbmjnjppfnaaDoor
