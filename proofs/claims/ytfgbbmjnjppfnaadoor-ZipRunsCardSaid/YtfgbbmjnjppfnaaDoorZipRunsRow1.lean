/-
  Plain laws: a list is zipped when it is read; Split and Merge answer the trees of the keys. No program. Conditions: none.
  Rows that lie apart: what an append to one leaves of another. Conditions: none.
  hedgref.Answered: what it answers. Conditions: the list of ops reads as ops (RD), of at most 300.
  slices.Equal at answers: of two that read as one list it answers true. Conditions: both read as l (RD).
  hedglaw.ZipRuns: the walk: it answers true. Conditions: the list of ops reads as ops (RD); the table of math/bits holds what it is laid with (DTb).
  hedglaw.ZipRuns: THE STATEMENT: for every input it answers true. Conditions: the table of math/bits holds what the program's text lays (tied on the card).
-/
import Derived.Test.YtfgbbmjnjppfnaaDoorZipRunsM14
import Derived.Test.YtfgbbmjnjppfnaaDoorZipRunsM17
import Derived.Test.YtfgbbmjnjppfnaaDoorZipRunsM2
import Derived.Test.YtfgbbmjnjppfnaaDoorZipRunsM13
import Derived.Test.YtfgbbmjnjppfnaaDoorZipRunsM1
import Derived.Test.YtfgbbmjnjppfnaaDoorZipRunsM12
import Derived.Test.YtfgbbmjnjppfnaaDoorCards
import Derived.Test.YtfgbbmjnjppfnaaDoorTie
import Derived.SevenTiedAt

namespace Go.Proofs.YtfgbbmjnjppfnaaDoor
open Go.ChangeShapes Go.WideShapes Go.ChangeAt Go.RowKit
set_option linter.unusedVariables false
set_option linter.unusedSimpArgs false

theorem nd_len : ∀ t : MT IP, (nd t).length = t.size
  | .nil => rfl
  | .node a l r => by simp [nd, MT.size, nd_len l, nd_len r]; omega
theorem ZI.size {T : MT IP} {ks : List Int} (h : ZI T ks) : T.size = ks.length := by rw [← nd_len, h.nd_, List.length_map]
theorem ZI.heap {T : MT IP} {ks : List Int} (h : ZI T ks) : heapTree (ks.map zk) = skZ T := by
  rw [← h.nd_]; exact heapTree_nd _ h.hp (by rw [h.nd_]; exact zk_up h.up)
theorem ZI.spots {T : MT IP} {ks : List Int} (h : ZI T ks) : (heapTree (ks.map zk)).spots 0 = T.spotsBy Prod.fst 0 := by rw [h.heap, skZ_spots]
theorem ksIns_last {ks : List Int} {k : Int} (h : ∀ x ∈ ks, x < k) : ksIns ks k = ks ++ [k] := by
  rw [ksIns, filter_all (fun x hx => by simpa using h x hx), filter_no (fun x hx => by have := h x hx; simp; omega), List.append_nil]
theorem zi_ex (ks : List Int) (h : Up ks) : ∃ T, ZI T ks := by
  have : ∀ n, n ≤ ks.length → ∃ T, ZI T (ks.take n) := by
    intro n
    induction n with
    | zero => intro _; exact ⟨.nil, by simp [nd], trivial, by simp [Up]⟩
    | succ n ih =>
      intro hn
      obtain ⟨T, hT⟩ := ih (by omega)
      have h2 := hT.put ks[n]
      rw [ksIns_last, ← List.take_succ_eq_append_getElem (by omega)] at h2
      · exact ⟨_, h2⟩
      · intro x hx
        obtain ⟨i, hi, rfl⟩ := List.mem_iff_getElem.1 hx
        rw [List.getElem_take]
        simp at hi
        exact (List.pairwise_iff_getElem.1 h) i n (by omega) (by omega) (by omega)
  obtain ⟨T, hT⟩ := this ks.length (Nat.le_refl _)
  rw [List.take_length] at hT
  exact ⟨T, hT⟩
theorem par_up {l : List IP} (h0 : (parOf l).2 = 0) : Up (l.map Prod.fst) ∧ (∀ k ∈ l.map Prod.fst, 0 ≤ k ∧ k ≤ 1000000) ∧ l.length ≤ 200 := by
  obtain ⟨hlen, hmr, _⟩ := parOf_len l h0
  refine ⟨?_, fun k hk => ?_, hlen⟩
  · rw [Up, List.pairwise_iff_getElem]
    intro i j hi hj hij
    simp only [List.length_map] at hi hj
    simp only [List.getElem_map]
    exact mapRight_rise l hmr i j hi hj hij
  · obtain ⟨x, hx, rfl⟩ := List.mem_map.1 hk
    exact mapRight_in l hmr x hx
theorem readZ_err (l : List IP) : (readZ l).2 = if (parOf l).2 ≠ 0 then (parOf l).2 else if zipOk l = true then 0 else 3 := by
  by_cases h0 : (parOf l).2 = 0
  · rw [if_neg (by simp [h0])]
    obtain ⟨hup, hin, hlen⟩ := par_up h0
    by_cases hz : zipOk l = true
    · rw [if_pos hz]
      obtain ⟨T, hT⟩ := zi_ex _ hup
      have hs := of_decide_eq_true hz
      rw [hT.spots] at hs
      obtain ⟨_, B, hB, _⟩ := readZ_spots hT (by rw [hT.size]; simpa using hlen) hin
      rw [← hs] at hB
      rw [hB]
    · rw [if_neg hz]
      have : (readZ l).2 ≠ 0 := fun h => by
        obtain ⟨hT, hs, _⟩ := readZ_facts h
        apply hz
        rw [zipOk, decide_eq_true_eq, hT.spots, hs]
      unfold readZ at this ⊢
      rw [if_neg (by simp [h0])] at this ⊢
      split
      · next hk =>
        rw [if_pos hk] at this
        split at this
        · exact absurd rfl this
        · exact absurd rfl this
      · rfl
  · rw [if_pos h0, readZ, if_pos h0]
theorem zrR_one (l : List IP) : zrR [l] = (readZ l).2 := by
  rw [readZ_err, zrR, errF, errF, formF, formF]
  by_cases h0 : (parOf l).2 = 0
  · simp [h0]
  · simp [h0]
def zrTwo (a b : List IP) : Int := if (parOf a).2 ≠ 0 then (parOf a).2 else if (parOf b).2 ≠ 0 then (parOf b).2 else if (readZ a).2 ≠ 0 ∨ (readZ b).2 ≠ 0 then 3 else 0
theorem zrR_two (a b : List IP) : zrR [a, b] = zrTwo a b := by
  rw [zrTwo, readZ_err, readZ_err, zrR, errF, errF, errF, formF, formF, formF]
  by_cases h0 : (parOf a).2 = 0 <;> by_cases h1 : (parOf b).2 = 0 <;> by_cases h2 : zipOk a = true <;> by_cases h3 : zipOk b = true <;> simp [h0, h1, h2, h3]
/-- What Split says, by the trees of the keys. -/
theorem split_says (l : List IP) (key : Int) : splitZ l key = if zrR [l] ≠ 0 then ([], [], zrR [l]) else if btw key 0 1000000 = false then ([], [], 1) else
    ((heapTree (((l.map Prod.fst).filter (fun x => decide (x < key))).map zk)).spots 0, (heapTree (((l.map Prod.fst).filter (fun x => !decide (x < key))).map zk)).spots 0, 0) := by
  rw [zrR_one]
  by_cases hr : (readZ l).2 = 0
  · rw [if_neg (by simp [hr])]
    by_cases hk : key < 0 ∨ 1000000 < key
    · rw [splitZ, if_neg (by simp [hr]), if_pos hk, if_pos (by simp [btw]; omega)]
    · rw [splitZ, if_neg (by simp [hr]), if_neg hk, if_neg (by simp [btw]; omega)]
      obtain ⟨z, hsp, hlen, hsz, hin⟩ := readZ_facts hr
      obtain ⟨M, hM⟩ : ∃ M, M = mapZ (readZ l).1 := ⟨_, rfl⟩
      rw [← hM] at z hsp hsz ⊢
      have hu : UpN (nd M) := by rw [z.nd_]; exact zk_up z.up
      obtain ⟨e1, e2⟩ := nd_unz M key hu
      obtain ⟨i1, i2⟩ := hp_unz M key hu z.hp
      have hn1 : nd (unz M key).1 = ((l.map Prod.fst).filter (fun x => decide (x < key))).map zk := by rw [e1, z.nd_, List.filter_map]; simp [Function.comp_def, zk] <;> rfl
      have hn2 : nd (unz M key).2 = ((l.map Prod.fst).filter (fun x => !decide (x < key))).map zk := by rw [e2, z.nd_, List.filter_map]; simp [Function.comp_def, zk] <;> rfl
      have z1 : ZI (unz M key).1 _ := ⟨hn1, i1, z.up.filter _⟩
      have z2 : ZI (unz M key).2 _ := ⟨hn2, i2, z.up.filter _⟩
      rw [z1.spots, z2.spots]
  · rw [if_pos hr, splitZ, if_pos hr]
/-- Is there a key in a list that is not more than the one ahead of it? -/
def notUp (l : List Int) (n : Nat) : Bool := (List.range n).any fun j => decide (0 < j) && decide (l.getD j 0 ≤ l.getD (j - 1) 0)
theorem notUp_succ (l : List Int) (n : Nat) : notUp l (n + 1) = (notUp l n || (decide (0 < n) && decide (l.getD n 0 ≤ l.getD (n - 1) 0))) := by
  rw [notUp, List.range_succ, List.any_append]; simp [notUp]
theorem notUp_iff (l : List Int) : notUp l l.length = false ↔ Up l := by
  constructor
  · intro h
    rw [notUp, List.any_eq_false] at h
    rw [Up, List.pairwise_iff_getElem]
    intro i j
    induction j with
    | zero => intro _ _ h; omega
    | succ j ih =>
      intro hi hj hij
      have h1 := h (j + 1) (by simpa using hj)
      simp [List.getD_eq_getElem?_getD, List.getElem?_eq_getElem hj, List.getElem?_eq_getElem (show j < l.length by omega)] at h1
      by_cases e : i = j
      · subst e; exact h1
      · have := ih hi (by omega) (by omega)
        omega
  · intro h
    rw [notUp, List.any_eq_false]
    intro j hj
    have hj : j < l.length := by simpa using hj
    rw [Up, List.pairwise_iff_getElem] at h
    by_cases h0 : 0 < j
    · have := h (j - 1) j (by omega) hj (by omega)
      simp [List.getD_eq_getElem?_getD, List.getElem?_eq_getElem hj, List.getElem?_eq_getElem (show j - 1 < l.length by omega)]
      omega
    · simp [h0]
theorem bad_up {a b : List IP} (ha : Up (a.map Prod.fst)) (hb : Up (b.map Prod.fst)) : badZ a b = notUp ((a ++ b).map Prod.fst) ((a ++ b).map Prod.fst).length := by
  have key : badZ a b = false ↔ Up ((a ++ b).map Prod.fst) := by
    rw [List.map_append, Up, List.pairwise_append]
    rcases List.eq_nil_or_concat a with rfl | ⟨a', x, rfl⟩
    · simp [badZ]; exact hb
    · cases b with
      | nil => simp [badZ]; simpa [Up] using ha
      | cons y b' =>
        have hbz : badZ (a'.concat x) (y :: b') = decide (y.1 ≤ x.1) := by simp [badZ]
        rw [hbz, decide_eq_false_iff_not]
        constructor
        · intro h
          refine ⟨ha, hb, fun p hp q hq => ?_⟩
          rw [List.concat_eq_append, List.map_append, Up, List.pairwise_append] at ha
          rw [List.map_cons, Up, List.pairwise_cons] at hb
          rw [List.concat_eq_append, List.map_append] at hp
          have h1 : p ≤ x.1 := by
            rcases List.mem_append.1 hp with hp | hp
            · exact Int.le_of_lt (ha.2.2 p hp x.1 (by simp))
            · simp at hp; omega
          have h2 : y.1 ≤ q := by
            rcases List.mem_cons.1 hq with rfl | hq
            · exact Int.le_refl _
            · exact Int.le_of_lt (hb.1 q hq)
          omega
        · rintro ⟨_, _, h⟩
          have := h x.1 (by simp) y.1 (by simp)
          omega
  rw [← notUp_iff] at key
  cases h1 : badZ a b <;> cases h2 : notUp ((a ++ b).map Prod.fst) ((a ++ b).map Prod.fst).length <;> simp_all
def msay (a b : List IP) : Int := if zrR [a, b] ≠ 0 then zrR [a, b] else if notUp ((a ++ b).map Prod.fst) ((a ++ b).map Prod.fst).length = true then 3 else if 200 < a.length + b.length then 2 else 0
theorem merge_says (a b : List IP) : mergeZ a b = if msay a b ≠ 0 then ([], msay a b) else ((heapTree (((a ++ b).map Prod.fst).map zk)).spots 0, 0) := by
  rw [msay, zrR_two, zrTwo, mergeZ]
  by_cases h0 : (parOf a).2 = 0
  · by_cases h1 : (parOf b).2 = 0
    · simp only [h0, h1, ne_eq, not_true_eq_false, if_false]
      by_cases h2 : (readZ a).2 = 0
      · by_cases h3 : (readZ b).2 = 0
        · obtain ⟨ua, _, _⟩ := par_up h0
          obtain ⟨ub, _, _⟩ := par_up h1
          simp only [h2, h3, not_true_eq_false, false_or, if_false, ne_eq]
          rw [← bad_up ua ub]
          by_cases h4 : badZ a b = true
          · simp [h4]
          · by_cases h5 : 200 < a.length + b.length
            · simp [h4, h5]
            · simp only [h4, h5, if_false, not_true_eq_false]
              obtain ⟨z, _⟩ := readZ_facts h2
              obtain ⟨y, _⟩ := readZ_facts h3
              have hup : Up ((a ++ b).map Prod.fst) := by rw [← notUp_iff, ← bad_up ua ub]; simpa using h4
              obtain ⟨M, hM⟩ : ∃ M, M = mapZ (readZ a).1 := ⟨_, rfl⟩
              obtain ⟨O, hO⟩ : ∃ O, O = mapZ (readZ b).1 := ⟨_, rfl⟩
              rw [← hM] at z ⊢
              rw [← hO] at y ⊢
              have hc : ∀ x ∈ nd M, ∀ y ∈ nd O, x.1 < y.1 := by
                rw [z.nd_, y.nd_]
                rw [List.map_append, Up, List.pairwise_append] at hup
                intro p hp q hq
                obtain ⟨p', hp', rfl⟩ := List.mem_map.1 hp
                obtain ⟨q', hq', rfl⟩ := List.mem_map.1 hq
                exact hup.2.2 p' hp' q' hq'
              have zz : ZI (zipM M O) ((a ++ b).map Prod.fst) := ⟨by rw [nd_zip _ _ _ (Nat.le_refl _), z.nd_, y.nd_, ← List.map_append, ← List.map_append], hp_zip _ _ _ (Nat.le_refl _) z.hp y.hp hc, hup⟩
              rw [zz.spots]
              simp
        · simp [h3]
      · simp [h2]
    · simp [h0, h1]
  · simp [h0]
/-- What Run leaves is the tree of the map's keys. -/
theorem run_says (ops : List O3) : (heapTree (((runL ops).1.map Prod.fst).map zk)).spots 0 = (zrT (opsA ops)).spotsBy Prod.fst 0 := (zip_inv_all ops).spots
end Go.Proofs.YtfgbbmjnjppfnaaDoor
namespace Go.Proofs.YtfgbbmjnjppfnaaDoor
open Go.ChangeShapes Go.WideShapes Go.ChangeAt Go.RowKit
set_option linter.unusedVariables false
set_option linter.unusedSimpArgs false

def Ap (n : Nat) (u v : Value) : Prop := 0 < n → u.ownBlock = none ∨ u.ownBlock ≠ v.ownBlock
theorem RD.app {α : Type} {E : Enc α} {w w' : World} {v u : Value} {l : List α} (h : RD w E v l) (hg : w.grownBy w' u.ownBlock) (ha : Ap l.length v u) : RD w' E v l := by
  cases l with
  | nil =>
    obtain ⟨A, c, rfl, h1, h2, hn, h3⟩ := h
    exact ⟨A, c, rfl, h1, h2, hn, fun h => by simp at h⟩
  | cons a t =>
    have h4 := ha (by simp)
    obtain ⟨A, c, rfl, h1, h2, hn, h3⟩ := h
    obtain ⟨b, o, rfl, hb, hc⟩ := h3 (by simp)
    refine RD.grownR hg ?_ ⟨_, c, rfl, h1, h2, hn, h3⟩
    rcases h4 with h4 | h4
    · simp [Value.ownBlock] at h4
    · exact h4
theorem Ap.next {n : Nat} {w : World} {v u u' : Value} (h : Ap n v u) (hu : u'.ownBlock = u.ownBlock ∨ u'.ownBlock = some w.heap.size) (hv : 0 < n → Lo w.heap.size v) : Ap n v u' := fun h0 => by
  rcases hu with hu | hu
  · rw [hu]; exact h h0
  · rw [hu]
    cases hb : v.ownBlock with
    | none => exact .inl rfl
    | some k =>
      refine .inr fun e => ?_
      injection e with e
      have := hv h0 k hb
      omega

/-- Rows that lie apart. -/
def Dis (u v : Value) : Prop := ∀ k, u.ownBlock = some k → v.ownBlock ≠ some k
theorem Dis.symm {u v : Value} (h : Dis u v) : Dis v u := fun k h1 h2 => h k h2 h1
theorem Dis.or {u v : Value} (h : Dis u v) : u.ownBlock = none ∨ u.ownBlock ≠ v.ownBlock := by
  cases hu : u.ownBlock with
  | none => exact .inl rfl
  | some k => exact .inr fun e => h k hu e.symm
theorem Dis.next {u u' v : Value} {n : Nat} (h : Dis u v) (hu : u'.ownBlock = u.ownBlock ∨ u'.ownBlock = some n) (hv : Lo n v) : Dis u' v := fun k h1 h2 => by
  rcases hu with e | e
  · exact h k (by rw [← e]; exact h1) h2
  · rw [e] at h1
    injection h1 with h1
    have := hv k h2
    omega
end Go.Proofs.YtfgbbmjnjppfnaaDoor
namespace Go.Proofs.YtfgbbmjnjppfnaaDoor
open Go.ChangeShapes Go.WideShapes Go.ChangeAt Go.RowKit
set_option linter.unusedVariables false
set_option linter.unusedSimpArgs false

def AwRel (ops : List O3) (w : World) (lv ov iv : Value) (wr : World) : Prop :=
  ∃ k : Nat, k ≤ ops.length ∧ iv = .int .i64 k ∧ RD wr ePair lv (runL (ops.take k)).1 ∧ OW wr w.heap.size 47 eAns ov (runL (ops.take k)).2 ∧ Ap (runL (ops.take k)).1.length lv ov ∧ Kp w wr
def AnsweredPost (r : List IP × List An) (w : World) (e : Ending) (w' : World) : Prop := ∃ v u, e = .returned (.tuple #[v, u]) ∧ RD w' ePair v r.1 ∧ RD w' eAns u r.2 ∧ Below w.heap.size w w'
set_option maxRecDepth 100000 in
set_option maxHeartbeats 4000000 in
theorem answered_any (ops : List O3) (v : Value) (w : World) (hr : RD w eOp v ops) (hn : ops.length ≤ 300) : Calls Tryd.prog 18 #[v] w (AnsweredPost (runL ops) w) := by
  obtain ⟨A, c, rfl, hc, hm⟩ := hr.shape
  have HR := hide hr
  clear hr
  go_enter Tryd.func18, Tryd.ntmps18
  go_wp2
  go_loopw [4, 5, 11] (AwRel ops w) (fun _ _ i _ => ops.length - (intOf i).toNat)
  case atStart => exact ⟨0, by omega, rfl, RD.nil, OW.nil, fun h => by simp [runL] at h, Kp.refl _⟩
  case round =>
    obtain ⟨k, hk, rfl, hl, ho, hap, hkp⟩ := hrel
    have hi := ho.hi
    have HLO := hide ho.lo
    have HL := hide hl
    have HO := hide ho
    have HAP := hide hap
    have hol := runL_len ops k hk
    obtain ⟨A6, c6, hv6, hc6, hm6⟩ := ho.rd.shape
    rw [hol] at hv6 hc6
    subst hv6
    clear hl ho hap
    by_cases hlt : k < ops.length
    · obtain ⟨b, o, rfl, _, x0, x1, x2⟩ := (HR.out.kp hkp).op hlt
      have hst := runL_take ops k hlt
      have hri := runL_right ops k hk
      obtain ⟨S, hS⟩ : ∃ S, S = runL (ops.take k) := ⟨_, rfl⟩
      rw [← hS] at HL HO HAP hst hol hri
      have hsl := mapRight_len S.1 hri
      obtain ⟨D, hD⟩ : ∃ D, D = doA S.1 ops[k].1 ops[k].2.1 ops[k].2.2 := ⟨_, rfl⟩
      have HST : Hid (runL (ops.take (k + 1)) = (D.1, S.2 ++ [D.2])) := hide (by rw [hst, runS, hD])
      have HD := hide (fun W v h => done_any S.1 ops[k].1 ops[k].2.1 ops[k].2.2 v W h (by omega))
      rw [done_do _ _ _ _ hri, ← hD] at HD
      have HM1 : Hid ((S.2.length + [D.2].length) * 32 ≤ 140737488355328) := hide (by rw [hol]; simp; omega)
      have HM2 : Hid (S.2.length + [D.2].length ≤ maxLen) := hide (by rw [hol]; simp [maxLen]; omega)
      clear hst hD hS hol hri hsl
      go_wp2_with fail
      refine (HD.out _ _ ((HL.out.alloc _).alloc _)).mono ?_
      rintro e w2 ⟨v2, rfl, hr2, hor, hb2⟩
      have hk2 : Kp wr w2 := (Kp.refl wr).alloc.alloc.trans hb2
      have hz2 := hk2.size
      have HR2 := hide hr2
      have HO2 := hide (HO.out.kp hk2)
      obtain ⟨dl, da, db, dc, dd⟩ := D
      have HAP2 : Hid (Ap dl.length v2 (.slice A6 k c6)) := hide (by
        rcases hor with rfl | hhi
        · have := RD.len_eq hr2 HL.out
          rw [this]
          exact HAP.out
        · intro _
          exact Lo.apart HLO.out (Hi.mono hhi (by simp <;> omega)))
      have f0 : w2.frozen? ⟨wr.heap.size + 1, 0, none⟩ = false := by rw [Kp.frozen hb2 (by simp)]; simp [go_sem]
      have f1 : w2.frozen? ⟨wr.heap.size + 1, 1, none⟩ = false := by rw [Kp.frozen hb2 (by simp)]; simp [go_sem]
      have f2 : w2.frozen? ⟨wr.heap.size + 1, 2, none⟩ = false := by rw [Kp.frozen hb2 (by simp)]; simp [go_sem]
      have f3 : w2.frozen? ⟨wr.heap.size + 1, 3, none⟩ = false := by rw [Kp.frozen hb2 (by simp)]; simp [go_sem]
      have r0 : w2.cell? ⟨wr.heap.size + 1, 0, none⟩ = some (.int .i64 0) := Kp.cell hb2 (by simp [go_sem])
      have r1 : w2.cell? ⟨wr.heap.size + 1, 1, none⟩ = some (.int .i64 0) := Kp.cell hb2 (by simp [go_sem])
      have r2 : w2.cell? ⟨wr.heap.size + 1, 2, none⟩ = some (.int .i64 0) := Kp.cell hb2 (by simp [go_sem])
      have r3 : w2.cell? ⟨wr.heap.size + 1, 3, none⟩ = some (.bool false) := Kp.cell hb2 (by simp [go_sem])
      have hkw : Kp w w2 := hkp.trans hk2
      simp only [An.v]
      obtain ⟨W4, hW4⟩ : ∃ W4, W4 = (((w2.setCell ⟨wr.heap.size + 1, 0, none⟩ (.int .i64 da)).setCell ⟨wr.heap.size + 1, 1, none⟩ (.int .i64 db)).setCell ⟨wr.heap.size + 1, 2, none⟩ (.int .i64 dc)).setCell ⟨wr.heap.size + 1, 3, none⟩ (.bool dd) := ⟨_, rfl⟩
      have hkg : Kg (wr.heap.size + 1) w2 W4 := by rw [hW4]; exact ((((Kg.refl _ w2).set).set).set).set
      have HKW : Hid (Kp w W4) := hide (hkg.kp hkw (by have := hkp.size; omega))
      have HO4 : Hid (OW (W4.alloc (.cells #[.int .i64 da, .int .i64 db, .int .i64 dc, .bool dd] 47)) w.heap.size 47 eAns (.slice A6 k c6) S.2) := hide (OW.alloc (by
        rw [hW4]
        have hne : (Value.slice A6 k c6).ownBlock ≠ some (wr.heap.size + 1) := fun e => by have := HLO.out _ e; omega
        exact ((((HO2.out.setCell hne _).setCell hne _).setCell hne _).setCell hne _)) _)
      have HKS : Hid (w.heap.size ≤ (W4.alloc (.cells #[.int .i64 da, .int .i64 db, .int .i64 dc, .bool dd] 47)).heap.size) := hide (HKW.out.alloc).size
      have HR4 : Hid (RD W4 ePair v2 dl) := hide (by
        rcases hor with rfl | hhi
        · have h1 := RD.len_eq hr2 HL.out
          exact hr2.kg (fun h0 e => by have := HL.out.lo (by omega) _ e; omega) hkg
        · exact hr2.kg (fun h0 e => by have := hhi _ e; simp at this; omega) hkg)
      clear hr2 hb2 hor hkg
      subst hW4
      go_wp2_with (at_builtin; (with_reducible refine list_app (B := w.heap.size) (l := S.2) (m := [(⟨da, db, dc, dd⟩ : An)]) row_ans (.slice A6 k c6) ?_ (.tmp 21) (.tmp 23) ?_ ?_ ?_ ?_ HM1.out HM2.out ?_ ?_); (with_reducible rfl); (with_reducible rfl); rfl; (exact HO4.out); (show RD _ _ (.slice (some ⟨_, 0, none⟩) 1 1) _; (focus ((repeat (first | (with_reducible assumption) | exact RD.new1 _ rfl | (refine RD.new1e _ ?_ rfl; simp; done) | (with_reducible apply RD.alloc) | (with_reducible apply RD.drew) | (with_reducible apply RD.drewN) | ((with_reducible apply RD.belowR); (with_reducible assumption)))); done))); (exact HKS.out); intro v3 w3 ho3 hg3 hat3)
      go_roundw
      case rel =>
        refine ⟨k + 1, by omega, by go_num, ?_, by rw [HST.out]; exact ho3, ?_, ?_⟩
        · rw [HST.out]
          exact RD.app (HR4.out.alloc _) hg3 HAP2.out
        · rw [HST.out]
          exact HAP2.out.next hat3 (fun h0 => ((HR4.out.alloc _).lo h0))
        · exact Kp.app hg3 (HKW.out.alloc) hi
      case measure => simp [intOf]; omega
    · have hkl : k = ops.length := by omega
      subst hkl
      have hS : Hid (ops.take ops.length = ops) := hide (by simp)
      clear hol
      go_wp2
      go_ret2
      exact ⟨_, _, rfl, by rw [← hS.out]; simpa using HL.out, by rw [← hS.out]; simpa using HO.out.rd, hkp.bel⟩
end Go.Proofs.YtfgbbmjnjppfnaaDoor
namespace Go.Proofs.YtfgbbmjnjppfnaaDoor
open Go.ChangeShapes Go.WideShapes Go.ChangeAt Go.RowKit
set_option linter.unusedVariables false
set_option linter.unusedSimpArgs false

def CtRel (n : Nat) (w : World) (i : Value) (wr : World) : Prop := ∃ k : Nat, k ≤ n ∧ i = .int .i64 k ∧ Kp w wr
set_option maxHeartbeats 1000000 in
theorem eqAns_same (l : List An) (v u : Value) (w : World) (hl : RD w eAns v l) (hm : RD w eAns u l) : Calls Tryd.prog 20 #[v, u] w (Ret (.bool true) w) := by
  obtain ⟨A, c, rfl, hc, hc'⟩ := hl.shape
  obtain ⟨A2, c2, rfl, hc2, hc2'⟩ := hm.shape
  have HL := hide hl
  have HM := hide hm
  clear hl hm
  have hn : ((l.length : Int) != (l.length : Int)) = false := by simp
  go_enter Tryd.func20, Tryd.ntmps20
  go_wp2
  go_loopw [13] (CtRel l.length w) (fun i wr => l.length - (intOf i).toNat)
  case atStart => exact ⟨0, by omega, rfl, Kp.refl _⟩
  case round =>
    obtain ⟨k, hk, rfl, hkp⟩ := hrel
    by_cases hlt : k < l.length
    · obtain ⟨b, o, rfl, hb, c0, c1, c4, c3⟩ := (HL.out.kp hkp).ans hlt
      obtain ⟨b2, o2, rfl, hb2, d0, d1, d2, d3⟩ := (HM.out.kp hkp).ans hlt
      go_wp2_with fail
      go_quiet (fail)
      go_wp2
      go_roundw
      case rel => exact ⟨k + 1, by omega, by go_num, by (focus ((repeat (first | (with_reducible assumption) | (with_reducible exact Kp.refl _) | (with_reducible apply Kp.drew) | (with_reducible apply Kp.drewN) | ((with_reducible apply Kp.setR); (focus (first | (with_reducible assumption) | (simp; done) | (simp; omega)))) | (with_reducible apply Kp.alloc) | ((with_reducible apply Kp.call); (with_reducible assumption)) | ((with_reducible apply Kp.app); (with_reducible assumption)))); done))⟩
      case measure => simp [intOf]; omega
    · go_wp2
      go_ret
      exact ⟨rfl, hkp.bel⟩
end Go.Proofs.YtfgbbmjnjppfnaaDoor
namespace Go.Proofs.YtfgbbmjnjppfnaaDoor
open Go.ChangeShapes Go.WideShapes Go.ChangeAt Go.RowKit
set_option linter.unusedVariables false
set_option linter.unusedSimpArgs false

set_option maxRecDepth 100000 in
set_option maxHeartbeats 8000000 in
theorem zipRuns_walk (ops : List O3) (v : Value) (w : World) (hr : RD w eOp v ops) (hdb : DTb w) : Calls Tryd.prog 4 #[v] w (Ret (.bool true) w) := by
  obtain ⟨A, c, rfl, hc, hm⟩ := hr.shape
  have HR := hide hr
  have HDB := hide hdb
  have HRU := hide (fun W v h hd => zipRun_any ops v W h hd)
  clear hr hdb
  by_cases hlen : ops.length > 300
  · have hz : zipRun ops = ([], [], 2) := by rw [zipRun, if_pos hlen]
    rw [hz] at HRU
    clear hz
    go_enter Tryd.func4, Tryd.ntmps4
    go_wp2_with fail
    with_reducible refine (HRU.out _ _ HR.out HDB.out).mono ?_
    rintro e w1 ⟨v1, u1, rfl, hr1, hu1, hb1⟩
    have kk1 : Kp w w1 := Kp.of hb1
    obtain ⟨A1, c1, rfl, _, _⟩ := hr1.shape
    obtain ⟨A2, c2, rfl, _, _⟩ := hu1.shape
    clear hr1 hu1 hb1
    go_wp2
    go_ret
    exact ⟨rfl, kk1.bel⟩
  · have hz : zipRun ops = ((zrT (opsA ops)).spotsBy Prod.fst 0, (runL ops).2, 0) := by rw [zipRun, if_neg hlen]
    rw [← run_says] at hz
    have HAW := hide (fun W v h => answered_any ops v W h (by omega))
    have hml : (runL ops).1.length ≤ 300 := by
      have h := zip_inv_all ops
      have h1 := h.size
      have h2 := zrT_size (opsA ops) (opsA ops).length (Nat.le_refl _)
      rw [List.take_length] at h2
      have h3 : (opsA ops).length ≤ ops.length := by rw [opsA, List.length_zip]; omega
      rw [List.length_map] at h1
      omega
    rw [hz] at HRU
    obtain ⟨R, hR⟩ : ∃ R, R = runL ops := ⟨_, rfl⟩
    rw [← hR] at HRU HAW hml
    obtain ⟨m, b⟩ := R
    have HMK := hide (fun v W h => mapKeys_any m v W h (by simp at hml; omega))
    have HZT := hide (fun v W h => zipTree_any (m.map Prod.fst) v W h (by simp at hml ⊢; omega))
    have HS : Hid ((0 : Int) + (heapTree ((m.map Prod.fst).map zk)).size ≤ 1073741824) := hide (by rw [heapTree_size]; simp at hml ⊢; omega)
    simp only at HRU
    obtain ⟨T, hT⟩ : ∃ T, T = heapTree ((m.map Prod.fst).map zk) := ⟨_, rfl⟩
    rw [← hT] at HRU HZT HS
    clear hz hR hT hml
    go_enter Tryd.func4, Tryd.ntmps4
    go_wp2_with fail
    with_reducible refine (HRU.out _ _ HR.out HDB.out).mono ?_
    rintro e w1 ⟨v1, u1, rfl, hr1, hu1, hb1⟩
    have kk1 : Kp w w1 := Kp.of hb1
    have HR1 := hide hr1
    have HU1 := hide hu1
    clear hr1 hu1 hb1
    go_wp2_with fail
    with_reducible refine (HAW.out _ _ (HR.out.kp kk1)).mono ?_
    rintro e w2 ⟨v2, u2, rfl, hr2, hu2, hb2⟩
    have kk2 : Kp w1 w2 := Kp.of hb2
    have HR2 := hide hr2
    have HU2 := hide hu2
    clear hr2 hu2 hb2
    go_wp2_with fail
    with_reducible refine (HMK.out _ _ HR2.out).mono ?_
    rintro e w3 ⟨v3, rfl, ho3, hb3⟩
    have kk3 : Kp w2 w3 := Kp.of hb3
    have HO3 := hide ho3.rd
    clear ho3 hb3
    go_wp2_with fail
    with_reducible refine (HZT.out _ _ HO3.out).mono ?_
    rintro e w4 ⟨p4, rfl, ht4, hb4⟩
    have kk4 : Kp w3 w4 := Kp.of hb4
    have HT4 := hide ht4
    clear ht4 hb4
    go_wp2_with fail
    with_reducible refine (spots_any T p4 0 _ HT4.out (by omega) HS.out).mono ?_
    rintro e w5 ⟨v5, rfl, ho5, hb5⟩
    have kk5 : Kp w4 w5 := Kp.of hb5
    have HO5 := hide ho5.rd
    clear ho5 hb5
    go_wp2_with fail
    refine (sameSpots_to (T.spots 0) (T.spots 0) true _ _ _ (HR1.out.kp (kk2.trans (kk3.trans (kk4.trans kk5)))) HO5.out (by simp)).mono ?_
    rintro e w6 ⟨rfl, hb6⟩
    have kk6 : Kp w5 w6 := Kp.of hb6
    clear hb6
    go_wp2_with fail
    refine (eqAns_same b _ _ _ (HU1.out.kp (kk2.trans (kk3.trans (kk4.trans (kk5.trans kk6))))) (HU2.out.kp (kk3.trans (kk4.trans (kk5.trans kk6))))).mono ?_
    rintro e w7 ⟨rfl, hb7⟩
    have kk7 : Kp w6 w7 := Kp.of hb7
    clear hb7
    go_wp2
    go_ret
    exact ⟨rfl, (kk1.trans (kk2.trans (kk3.trans (kk4.trans (kk5.trans (kk6.trans kk7)))))).bel⟩
end Go.Proofs.YtfgbbmjnjppfnaaDoor
namespace Go.Proofs.YtfgbbmjnjppfnaaDoor
open Go.ChangeShapes Go.WideShapes Go.ChangeAt Go.RowKit Go.Deep
set_option linter.unusedVariables false
set_option linter.unusedSimpArgs false

set_option maxRecDepth 100000 in
theorem zipRuns_lifted (os : Os) (started : os.Started) (H : Type) (enc : TypeId × Value → H) :
    ReturnsInHanded {} Tryd.checked os 4 .any (fun w args => (Rows.zipRunsSpec.pre enc Tryd.prog Tryd.f4 Rows.zipRunsRow.domain false w args ∧ laidMetH Tryd.prog ZLaid w) ∧ sizedMet enc Tryd.prog Tryd.f4 (OpenSpec.ofChange Rows.zipRunsSpec) false w args) (Rows.zipRunsSpec.post enc Tryd.prog Tryd.f4 false true false false) := by
  refine returnsInHanded_of_change_and (C := Tryd.checked) (X := fun w _ => laidMetH Tryd.prog ZLaid w) (fun _ _ _ hh h => h.of_heap hh) own started (by kernel_rfl) Tryd.func4
    (ChangeSpec.witness_at (enc := enc) (C := Tryd.checked) (os := os) (X := fun w _ => laidMetH Tryd.prog ZLaid w) false (laidWorldZ os) #[.slice none 0 0] 8 rfl (by kernel_rfl) (by kernel_rfl) (by kernel_rfl) (by kernel_rfl) (by kernel_rfl) (laidZ_met os _)) ?_
  intro W base args ds gs before hval0 hW hcnd _ hL _
  have hval : ∀ (j : Nat) t v, Tryd.f4.params[j]? = some t → args[j]? = some v → Value.okWide Tryd.prog W .any base t v := hval0
  have hW' := hW
  obtain ⟨p, q, hA0, hV, rfl, hfz, hnd⟩ := hW
  have hA : DataW.TrodAll enc Tryd.prog W 0 (fun _ => true) true Tryd.f4.params.toList args.toList ds p := hA0
  rw [Tryd.params4] at hA hval
  obtain ⟨v0, vs0, d0, ds0, p0, q0, hargs, rfl, rfl, h0, r0⟩ := trodAll_cons hA
  obtain ⟨rfl, rfl, rfl⟩ := trodAll_nil r0
  obtain rfl : args = #[v0] := by cases args; simp_all
  obtain ⟨rfl, rfl⟩ := trodVars_none hV
  obtain ⟨a0, n0, c0, rfl⟩ := okWide_slice Tryd.underlying37 (hval 0 37 v0 rfl rfl)
  have lt0 : ∀ x ∈ p0, x.block < W.heap.size := by obtain ⟨m, hm⟩ := h0; exact DataW.trod_lt m _ _ _ hm
  obtain ⟨l0, w0⟩ := arg_ops h0
  clear hA0 hval0
  refine (zipRuns_walk l0 _ W w0 (db_of_laid hL)).mono fun e W' ⟨he, bel⟩ => ?_
  subst he
  exact ⟨_, rfl, _, _, _, [], _, [], hW', trodAll_mk1 (shut_bool Tryd.underlying4 _), (trodAll_cons_mk (Below.trod laidOut (by kernel_rfl) (of_decide_eq_true (by kernel_rfl)) h0 bel lt0) trodAll_mk0), rfl, bel.frame _, fun h => by cases h⟩

set_option maxRecDepth 100000 in
set_option maxHeartbeats 8000000 in
theorem zipRuns_closed : joinedFacts Tryd.checked.prog 4 Tryd.f4 Rows.zipRunsSpec Rows.zipRunsRow = true := by
  unfold joinedFacts
  repeat' (with_reducible refine and_true_of ?_ ?_)
  all_goals (as_aux_lemma => kernel_rfl)
theorem zipRuns_over : Rows.zipRunsRow.holds Tryd.pinned (OpenSpec.ofChange Rows.zipRunsSpec) :=
  OpenClaim.holds_of_wide 4 Tryd.f4 rfl rfl rfl rfl rfl rfl rfl ⟨rfl, rfl, rfl, rfl, rfl⟩ rfl rfl rfl rfl rfl (by as_aux_lemma => kernel_rfl) Tryd.func4 zipRuns_closed
    (of_decide_eq_true (by as_aux_lemma => kernel_rfl)) (by as_aux_lemma => unfold Func.isWrapper; first | (rw [if_pos (by decide +kernel)]; kernel_rfl) | (rw [if_neg (by decide +kernel)]; exact ⟨rfl, rfl⟩))
    (fun os started H enc _ => zipRuns_lifted os started H enc)
set_option maxRecDepth 100000 in
theorem zipRuns_proved : Rows.ZipRunsCardSaid :=
  Claim7.holds_tied_plain_at .later [] [.data] true _ false zipRuns_over (fun _ h => by cases h) (by kernel_rfl) (fun _ h => by cases h) zipRuns_row_tie rfl ⟨rfl, rfl⟩ (by kernel_rfl) rfl
    (fun f fn hf hfn => by
      obtain rfl : f = 4 := Option.some.inj ((show Tryd.prog.funcNamed "hedgewright/hedglaw.ZipRuns" = some 4 by kernel_rfl).symm.trans hf) |>.symm
      obtain rfl : fn = Tryd.f4 := (Option.some.inj (Tryd.func4.symm.trans hfn)).symm
      exact ⟨by kernel_rfl, fun j t ht => by
        have h : (Tryd.f4.params.toList.all fun t => !Tryd.prog.wantsStandIn t) = true := by kernel_rfl
        have hm : t ∈ Tryd.f4.params.toList := by
          rw [Array.mem_toList_iff]
          exact Array.mem_of_getElem? ht
        have h2 : Tryd.prog.wantsStandIn t = false := by simpa using List.all_eq_true.1 h t hm
        exact h2⟩)
    (by kernel_rfl)
#print axioms zipRuns_proved
end Go.Proofs.YtfgbbmjnjppfnaaDoor
