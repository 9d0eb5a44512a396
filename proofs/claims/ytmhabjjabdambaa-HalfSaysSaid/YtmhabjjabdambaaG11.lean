/-
  half's all: the numbers of a set, rising. Conditions: the set reads as a rising list (HR).
  half.Run: what it answers. Conditions: the list of ops reads as ops (RD).
  copy, append within the capacity, clear, append of zeros: at slices of elements of several cells, in a block that is known whole; slices.overlaps of two blocks. Conditions: those of each law.
  A store into the second cell of a pair of an owned slice. Conditions: none.
  plain.within, hedgref.Between, hedgref.MapRight, plain.Check: what they answer. Conditions: the list reads as l (RD).
-/
import Derived.Test.YtmhabjjabdambaaG10
import Derived.Test.YtmhabjjabdambaaG2
import Derived.Laws.CopyOwn
import Derived.Lib.AppendZerosOnto
import Derived.Lib.Overlaps
import Derived.Lib.SliceRun
import Derived.Test.YtmhabjjabdambaaG1

namespace Go.Proofs.Ytmhabjjabdambaa
open Go.ChangeShapes Go.WideShapes Go.ChangeAt Go.RowKit
set_option linter.unusedVariables false
set_option linter.unusedSimpArgs false

theorem up_len : ∀ (S : List Int) (a M : Int), UpL S → (∀ x ∈ S, a ≤ x ∧ x < M) → a ≤ M → a + (S.length : Int) ≤ M
  | [], a, M, _, _, h => by simpa using h
  | x :: S, a, M, hu, hb, h => by
    rw [UpL, List.pairwise_cons] at hu
    have h1 := hb x (by simp)
    have := up_len S (a + 1) M hu.2 (fun y hy => by have := hu.1 y hy; have := hb y (by simp [hy]); omega) (by omega)
    rw [List.length_cons]; push_cast; omega
theorem nx_at {S : List Int} (h : UpL S) {i : Nat} (hi : i < S.length) : nxU S S[i] = S[i + 1]? := by
  have hp := List.pairwise_iff_getElem.1 h
  by_cases h1 : i + 1 < S.length
  · rw [List.getElem?_eq_getElem h1, nxU_iff h]
    refine ⟨List.getElem_mem _, hp i (i + 1) hi h1 (by omega), fun y hy hxy => ?_⟩
    obtain ⟨j, hj, rfl⟩ := List.mem_iff_getElem.1 hy
    by_cases e : j ≤ i
    · exfalso
      by_cases e2 : j = i
      · subst e2; omega
      · have := hp j i hj hi (by omega); omega
    · by_cases e2 : j = i + 1
      · subst e2; omega
      · have := hp (i + 1) j h1 hj (by omega); omega
  · rw [List.getElem?_eq_none (by omega), nxU_none]
    intro y hy hxy
    obtain ⟨j, hj, rfl⟩ := List.mem_iff_getElem.1 hy
    by_cases e2 : j = i
    · subst e2; omega
    · have := hp j i hj hi (by omega); omega
theorem pv_at {S : List Int} (h : UpL S) {i : Nat} (hi : i < S.length) : pvU S S[i] = if i = 0 then none else S[i - 1]? := by
  have hp := List.pairwise_iff_getElem.1 h
  by_cases h1 : i = 0
  · subst h1
    rw [if_pos rfl, pvU_none]
    intro y hy hxy
    obtain ⟨j, hj, rfl⟩ := List.mem_iff_getElem.1 hy
    by_cases e2 : j = 0
    · subst e2; omega
    · have := hp 0 j hi hj (by omega); omega
  · rw [if_neg h1, List.getElem?_eq_getElem (by omega), pvU_iff h]
    refine ⟨List.getElem_mem _, hp (i - 1) i (by omega) hi (by omega), fun y hy hxy => ?_⟩
    obtain ⟨j, hj, rfl⟩ := List.mem_iff_getElem.1 hy
    by_cases e : i ≤ j
    · exfalso
      by_cases e2 : j = i
      · subst e2; omega
      · have := hp i j hi hj (by omega); omega
    · by_cases e2 : j = i - 1
      · subst e2; omega
      · have := hp j (i - 1) hj (by omega) (by omega); omega
def keyO : Option Int → Int
  | some k => k
  | none => 0
theorem nxV_eq (q : Option Int) : nxV q = .tuple #[.int .i64 (keyO q), .bool q.isSome] := by cases q <;> rfl
theorem HB.first_at {n : Nat} {S : List Int} {le mo : Int} (h : HB n S true le mo) : S[0]? = some le ∧ 0 < S.length ∧ S.getLast? = some mo := by
  obtain ⟨b1, b2, b3, b4⟩ := h
  obtain ⟨q1, q2, q3⟩ := b4 rfl
  have hp := List.pairwise_iff_getElem.1 b1
  have h0 : 0 < S.length := List.length_pos_of_mem q1
  refine ⟨?_, h0, ?_⟩
  · obtain ⟨j, hj, e⟩ := List.mem_iff_getElem.1 q1
    rw [List.getElem?_eq_getElem h0]
    congr 1
    have h2 := (q3 _ (List.getElem_mem h0)).1
    by_cases e2 : j = 0
    · subst e2; exact e
    · have := hp 0 j h0 hj (by omega); omega
  · obtain ⟨j, hj, e⟩ := List.mem_iff_getElem.1 q2
    rw [List.getLast?_eq_getElem?, List.getElem?_eq_getElem (by omega)]
    congr 1
    have h2 := (q3 _ (List.getElem_mem (show S.length - 1 < S.length by omega))).2
    by_cases e2 : j = S.length - 1
    · subst e2; exact e
    · have := hp j (S.length - 1) hj (by omega) (by omega); omega
def HaRel (S : List Int) (w : World) (ov kv iv : Value) (wr : World) : Prop :=
  ∃ (j : Nat) (k : Int) (is : Bool), j ≤ S.length ∧ kv = .int .i64 k ∧ iv = .bool is ∧ is = decide (j < S.length) ∧ (∀ h : j < S.length, k = S[j]) ∧ OW wr w.heap.size 3 eInt ov (S.take j) ∧ Kp w wr
def lenOf : Value → Nat
  | .slice _ n _ => n
  | _ => 0
set_option maxRecDepth 100000 in
set_option maxHeartbeats 4000000 in
theorem hall_any (S : List Int) (b : Nat) (F : List Nat) (w : World) (hr : HR 57 4 w S b F) : Calls Try.prog 25 #[.pointer (some ⟨b, 0, none⟩)] w (RetOW 3 eInt S w) := by
  have HRR := hide hr
  obtain ⟨an, le, mo, mv, hv, hb, hc⟩ := hr.hb
  have c1 := hc.cell 1
  have c2 := hc.cell 2
  simp only [hC, List.getElem?_cons_zero, List.getElem?_cons_succ] at c1 c2
  cases an with
  | false =>
    have hS := hb.no
    subst hS
    clear hb hc hr
    go_enter Try.func25, Try.ntmps25
    go_wp2
    go_ret
    exact ⟨_, rfl, OW.nil, Below.refl _ _⟩
  | true =>
    have hf := hb.first_at
    have hup := hb.1
    have hbd := hb.2.1
    have hlen := up_len S 0 (UU 4) hup hbd (by rw [UU_4]; decide)
    rw [UU_4] at hlen hbd
    have HUP := hide hup
    have HBD := hide hbd
    have HREL : Hid (HaRel S w (.slice none 0 0) (.int .i64 le) (.bool true) w) := hide ⟨0, le, true, by omega, rfl, rfl, by simp [hf.2.1], fun h => by
      have := hf.1; rw [List.getElem?_eq_getElem h] at this; injection this with this; exact this.symm, OW.nil, Kp.refl _⟩
    clear hb hc hr hf hup hbd
    go_enter Try.func25, Try.ntmps25
    go_wp2
    go_loopw [3, 4, 5] (HaRel S w) (fun o _ _ _ => S.length - lenOf o)
    case atStart => exact HREL.out
    case round =>
      clear HREL
      obtain ⟨j, k, is, hj, rfl, rfl, his, hk, ho, hkp⟩ := hrel
      obtain ⟨A6, c6, hv6, hc6, hm6⟩ := ho.rd.shape
      have htl : (S.take j).length = j := by simp; omega
      rw [htl] at hv6 hc6
      subst hv6
      have HO := hide ho
      have HHI := hide ho.hi
      by_cases hlt : j < S.length
      · have hi : is = true := by rw [his]; exact decide_eq_true hlt
        subst hi
        have hk1 := hk hlt
        obtain ⟨h0, h1⟩ := HBD.out k (by rw [hk1]; exact List.getElem_mem _)
        have hnx : nxU S k = S[j + 1]? := by rw [hk1]; exact nx_at HUP.out hlt
        have HN : Hid (S.take j ++ [k] = S.take (j + 1)) := hide (by rw [List.take_succ_eq_append_getElem hlt, hk1])
        have HM1 : Hid (((S.take j).length + [k].length) * 8 ≤ 140737488355328) := hide (by simp; omega)
        have HM2 : Hid ((S.take j).length + [k].length ≤ maxLen) := hide (by simp [maxLen]; omega)
        obtain ⟨q, hq⟩ : ∃ q, q = nxU S k := ⟨_, rfl⟩
        have HNX := hide (fun W (h : Kp w W) => hnext_any 4 (by decide) S b F k W (HR.kf (G := fun _ => False) (Kf.of h) HRR.out (fun _ _ h => h)) h0 (by rw [UU_4]; exact h1))
        rw [← hq, nxV_eq] at HNX
        have HQ : Hid (q = S[j + 1]?) := hide (hq.trans hnx)
        clear ho his hk hk1 hnx hq h0 h1
        go_wp2_with (at_builtin; (with_reducible refine list_app (B := w.heap.size) (l := S.take j) (m := [k]) row_int (.slice A6 j c6) ?_ (.tmp 22) (.tmp 24) ?_ ?_ ?_ ?_ HM1.out HM2.out ?_ ?_); (with_reducible rfl); (with_reducible rfl); rfl; (exact HO.out.alloc _); (show RD _ _ (.slice (some ⟨_, 0, none⟩) 1 1) _; (focus ((repeat (first | (with_reducible assumption) | exact RD.new1 _ rfl | (refine RD.new1e _ ?_ rfl; simp; done) | (with_reducible apply RD.alloc) | (with_reducible apply RD.drew) | (with_reducible apply RD.drewN) | ((with_reducible apply RD.belowR); (with_reducible assumption)))); done))); (have := hkp.size; simp; omega); intro v3 w3 ho3 hg3 hat3)
        have hk3 : Kp w w3 := Kp.app hg3 hkp.alloc HHI.out
        have hnx := HNX.out w3 hk3
        go_wp2_with fail
        with_reducible refine hnx.mono ?_
        rintro e9 w4 ⟨rfl, m4, rfl⟩
        go_wp2
        go_roundw
        case rel =>
          refine ⟨j + 1, keyO q, q.isSome, by omega, rfl, rfl, ?_, fun h => ?_, by rw [← HN.out]; exact ho3.drewN m4, hk3.drewN⟩
          · rw [HQ.out]
            by_cases h : j + 1 < S.length
            · simp [h]
            · simp [h]
          · rw [HQ.out, List.getElem?_eq_getElem h]; rfl
        case measure =>
          obtain ⟨A7, c7, e7, _⟩ := ho3.rd.shape
          rw [e7]
          simp [lenOf]
          omega
      · have hi : is = false := by rw [his]; exact decide_eq_false hlt
        subst hi
        have hkl : Hid (S.take j = S) := hide (List.take_of_length_le (by omega))
        clear ho his hk
        go_wp2
        go_ret
        exact ⟨_, rfl, by have := HO.out; rwa [hkl.out] at this, hkp.bel⟩
end Go.Proofs.Ytmhabjjabdambaa
namespace Go.Proofs.Ytmhabjjabdambaa
open Go.ChangeShapes Go.WideShapes Go.ChangeAt Go.RowKit
set_option linter.unusedVariables false
set_option linter.unusedSimpArgs false

def hStep (s : List Int × List An) (o : O3) : List Int × List An := ((hDo s.1 o).1, s.2 ++ [(hDo s.1 o).2])
def hRunL (ops : List O3) : List Int × List An := ops.foldl hStep ([], [])
theorem hRunL_take (ops : List O3) (k : Nat) (h : k < ops.length) : hRunL (ops.take (k + 1)) = hStep (hRunL (ops.take k)) ops[k] := by
  rw [List.take_succ_eq_append_getElem h, hRunL, List.foldl_append]; rfl
theorem hRunL_len (ops : List O3) (k : Nat) (h : k ≤ ops.length) : (hRunL (ops.take k)).2.length = k := by
  induction k with
  | zero => rfl
  | succ k ih => rw [hRunL_take ops k (by omega), hStep, List.length_append, ih (by omega)]; rfl
def hRun (ops : List O3) : List Int × List An × Int := if ops.length > 300 then ([], [], 2) else ((hRunL ops).1, (hRunL ops).2, 0)
def HuPost (r : List Int × List An × Int) (w : World) (e : Ending) (w' : World) : Prop := ∃ v u, e = .returned (.tuple #[v, u, .int .i64 r.2.2]) ∧ OW w' w.heap.size 3 eInt v r.1 ∧ RD w' eAns u r.2.1 ∧ Kp w w'
def HuRel (ops : List O3) (w : World) (b : Nat) (ov iv : Value) (wr : World) : Prop :=
  ∃ (k : Nat) (F : List Nat), k ≤ ops.length ∧ iv = .int .i64 (k : Int) ∧ HR 57 4 wr (hRunL (ops.take k)).1 b F ∧ (∀ i ∈ F, w.heap.size ≤ i) ∧ OW wr w.heap.size 39 eAns ov (hRunL (ops.take k)).2 ∧ (∀ i ∈ F, ov.ownBlock ≠ some i) ∧ Kp w wr
set_option maxRecDepth 100000 in
set_option maxHeartbeats 4000000 in
theorem hRun_any (ops : List O3) (v : Value) (w : World) (hr : RD w eOp v ops) : Calls Try.prog 9 #[v] w (HuPost (hRun ops) w) := by
  obtain ⟨A, c, rfl, hc, hm⟩ := hr.shape
  have HRD0 := hide hr
  clear hr
  by_cases hlen : ops.length > 300
  · have H1 : Hid (hRun ops = ([], [], 2)) := hide (by rw [hRun, if_pos hlen])
    go_enter Try.func9, Try.ntmps9
    go_wp2
    go_ret3
    exact ⟨_, _, by rw [H1.out]; rfl, by rw [H1.out]; exact OW.nil, by rw [H1.out]; exact RD.nil, Kp.refl _⟩
  · have H1 : Hid (hRun ops = ((hRunL ops).1, (hRunL ops).2, 0)) := hide (by rw [hRun, if_neg hlen])
    go_enter Try.func9, Try.ntmps9
    go_wp2_with fail
    with_reducible refine (hmade_any 16 w).mono ?_
    rintro e w1 ⟨rfl, hw1⟩
    have hnew : HR 57 4 w1 [] w.heap.size [w.heap.size] := by
      refine HR.new 4 ?_
      rw [hw1]; exact BC.new w 57 (newC 4)
    have kk1 : Kp w w1 := by rw [hw1]; exact (Kp.refl w).alloc
    have HREL : Hid (HuRel ops w w.heap.size (.slice none 0 0) (.int .i64 0) w1) := hide ⟨0, _, by omega, rfl, hnew, by simp, OW.nil, by simp [Value.ownBlock], kk1⟩
    clear hnew kk1 hw1
    go_wp2
    go_loopw [6, 15] (HuRel ops w w.heap.size) (fun _ i _ => ops.length - (intOf i).toNat)
    case atStart => exact HREL.out
    case round =>
      clear HREL
      obtain ⟨k, F, hk, rfl, hhr, hF, ho, hap, hkp⟩ := hrel
      have hol := hRunL_len ops k hk
      obtain ⟨A6, c6, hv6, hc6, hm6⟩ := ho.rd.shape
      rw [hol] at hv6 hc6
      subst hv6
      have HHR := hide hhr
      have HO := hide ho
      have HKP := hide hkp
      have HFB := hide hF
      have HAP := hide hap
      by_cases hlt : k < ops.length
      · obtain ⟨b, o, rfl, _, x0, x1, x2⟩ := (HRD0.out.kp hkp).op hlt
        have hst := hRunL_take ops k hlt
        obtain ⟨S, hS⟩ : ∃ S, S = hRunL (ops.take k) := ⟨_, rfl⟩
        rw [← hS] at HHR HO hst hol
        obtain ⟨D, hD⟩ : ∃ D, D = hDo S.1 (ops[k].1, ops[k].2.1, ops[k].2.2) := ⟨_, rfl⟩
        have HST : Hid (hRunL (ops.take (k + 1)) = (D.1, S.2 ++ [D.2])) := hide (by rw [hst, hStep, hD])
        have HDD := hide (fun W (h : Kp wr W) => hdo_any S.1 w.heap.size F ops[k].1 ops[k].2.1 ops[k].2.2 W (HR.kf (G := fun _ => False) (Kf.of h) HHR.out (fun _ _ h => h)))
        rw [← hD] at HDD
        have HM1 : Hid ((S.2.length + [D.2].length) * 32 ≤ 140737488355328) := hide (by rw [hol]; simp; omega)
        have HM2 : Hid (S.2.length + [D.2].length ≤ maxLen) := hide (by rw [hol]; simp [maxLen]; omega)
        have HLO := hide ho.lo
        clear hst hD hS hhr hF hap ho hkp
        go_wp2_with fail
        have hdd := HDD.out (wr.alloc (.cells #[.int .i64 ops[k].1, .int .i64 ops[k].2.1, .int .i64 ops[k].2.2] 43)) (Kp.refl wr).alloc
        with_reducible refine hdd.mono ?_
        rintro e w2 ⟨rfl, F2, hr2, hF2, hk2⟩
        have hsz := hk2.size
        have hkf2 : Kf (fun i => i ∈ F) wr w2 := (Kf.of (F := fun i => i ∈ F) (Kp.refl wr).alloc).trans hk2 (fun _ _ h => h)
        have hkp2 : Kp w w2 := Kf.kp hkf2 HKP.out HFB.out
        have ho2 : OW w2 w.heap.size 39 eAns (.slice A6 k c6) S.2 := OW.kf HO.out hkf2 (fun i hi hF => HAP.out i hF hi)
        have HHR2 := hide hr2
        have HO2 := hide ho2
        have HKP2 := hide hkp2
        have HFB2 : Hid (∀ i ∈ F2, w.heap.size ≤ i) := hide (fun i hi => by
          rcases hF2 i hi with h | h
          · exact HFB.out i h
          · have := HKP.out.size; simp at h; omega)
        have HAP2 : Hid (∀ i ∈ F2, (Value.slice A6 k c6).ownBlock ≠ some i) := hide (fun i hi e => by
          rcases hF2 i hi with h | h
          · exact HAP.out i h e
          · have := HLO.out i e; simp at h; omega)
        have HLT2 := hide hr2.lt.2
        obtain ⟨dl, da, db, dc, dd⟩ := D
        simp only [An.v]
        clear hr2 hF2 hk2 hsz hkf2 hkp2 ho2 hdd hol
        go_wp2_with (at_builtin; (with_reducible refine list_app (B := w.heap.size) (l := S.2) (m := [(⟨da, db, dc, dd⟩ : An)]) row_ans (.slice A6 k c6) ?_ (.tmp 19) (.tmp 23) ?_ ?_ ?_ ?_ HM1.out HM2.out ?_ ?_); (with_reducible rfl); (with_reducible rfl); rfl; (exact HO2.out.alloc _); (show RD _ _ (.slice (some ⟨_, 0, none⟩) 1 1) _; (focus ((repeat (first | (with_reducible assumption) | exact RD.new1 _ rfl | (refine RD.new1e _ ?_ rfl; simp; done) | (with_reducible apply RD.alloc) | (with_reducible apply RD.drew) | (with_reducible apply RD.drewN) | ((with_reducible apply RD.belowR); (with_reducible assumption)))); done))); (have := HKP2.out.size; simp; omega); intro v3 w3 ho3 hg3 hat3)
        go_roundw
        case rel =>
          have hk3 : Kf (fun i => (Value.slice A6 k c6).ownBlock = some i) w2 w3 := Kf.app (Kf.of (Kp.refl w2).alloc) hg3 (fun i hi => .inl hi)
          refine ⟨k + 1, F2, by omega, by go_num, by rw [HST.out]; exact HR.kf hk3 HHR2.out (fun i hi => HAP2.out i hi), HFB2.out, by rw [HST.out]; exact ho3, fun i hi e => ?_, Kp.app hg3 HKP2.out.alloc HO2.out.hi⟩
          rcases hat3 with h | h
          · rw [h] at e; exact HAP2.out i hi e
          · rw [h] at e; injection e with e
            have := HLT2.out i hi
            simp at e; omega
        case measure => simp [intOf] <;> omega
      · have hkl : ops.take k = ops := List.take_of_length_le (by omega)
        rw [hkl] at HHR HO
        clear hhr hF hap ho hkp hol
        go_wp2_with fail
        with_reducible refine (hall_any _ _ _ _ HHR.out).mono ?_
        rintro e w2 ⟨v2, rfl, hrds, kk2⟩
        have HRD := hide hrds
        have HKK := hide (Kp.of kk2)
        clear hrds kk2
        go_wp2
        go_ret3
        exact ⟨v2, .slice A6 k c6, by rw [H1.out]; rfl, by rw [H1.out]; exact HRD.out.more HKP.out.size, by rw [H1.out]; exact (HO.out.kp HKK.out).rd, HKP.out.trans HKK.out⟩
end Go.Proofs.Ytmhabjjabdambaa
namespace Go.Proofs.Ytmhabjjabdambaa
open Go.ChangeShapes Go.WideShapes Go.ChangeAt Go.RowKit
set_option linter.unusedVariables false
set_option linter.unusedSimpArgs false

/-- The block g is just these cells. -/
def BK (w : World) (g : Nat) (t : TypeId) (cur : List Value) : Prop := w.heap[g]? = some (.cells cur.toArray t (0, 0))
section
variable {P : Program} {w w' : World} {g : Nat} {t : TypeId} {cur cs : List Value}
theorem BK.lt (h : BK w g t cur) : g < w.heap.size := (Array.getElem?_eq_some_iff.1 h).1
theorem BK.kp (h : BK w g t cur) (hk : Kp w w') : BK w' g t cur := (hk.bel.block g h.lt).trans h
theorem BK.kg {b : Nat} (h : BK w g t cur) (hn : g ≠ b) (hk : Kg b w w') : BK w' g t cur := (hk.block h.lt hn).trans h
theorem BK.cell (h : BK w g t cur) (j : Nat) : w.cell? ⟨g, j, none⟩ = cur[j]? := by
  rw [cell_of_row w g j _ t (0, 0) h]; simp
theorem Kg.setRow (w : World) (g : Nat) (cs : Array Value) : Kg g w (w.setRow g cs) := ⟨rfl, rfl, rfl, by simp, fun k hk hn => setRow_other w g k cs (fun e => hn (by rw [e]))⟩
theorem BK.setRow (h : BK w g t cur) (cs : List Value) : BK (w.setRow g cs.toArray) g t cs := setRow_heap w g _ _ t _ h
theorem BK.of_ow {α : Type} {B : Nat} {E : Enc α} {e : TypeId} {n c : Nat} {l : List α} (h : OW w B e E (.slice (some ⟨g, 0, none⟩) n c) l) : ∃ cur : List Value, BK w g e cur ∧ B ≤ g ∧ n ≤ c ∧ c ≤ maxLen ∧ cur.length = c * E.size ∧ cur.take (n * E.size) = l.flatMap E.cells ∧ n = l.length := by
  obtain ⟨h1, h2⟩ := h
  have hn : n = l.length := by
    rcases h2 with ⟨h2, _⟩ | ⟨g', cap, cur, hv, _⟩
    · cases h2
    · injection hv
  rcases h2 with ⟨h2, _⟩ | ⟨g', cap, cur, hv, hb, hg, h3, h4, h5, h6⟩
  · cases h2
  · injection hv with e1 e2 e3
    injection e1 with e1
    injection e1 with e1 _
    subst e1 e3
    refine ⟨cur.toList, ?_, hb, by omega, h4, by simpa using h5, by rw [hn]; simpa using h6, hn⟩
    unfold BK
    simpa using hg
theorem BK.ow {α : Type} {B : Nat} {E : Enc α} {e : TypeId} {c : Nat} {l : List α} (h : BK w g e cur) (hB : B ≤ g) (hn : l.length ≤ c) (hc : c ≤ maxLen) (hl : cur.length = c * E.size) (ht : cur.take (l.length * E.size) = l.flatMap E.cells) :
    OW w B e E (.slice (some ⟨g, 0, none⟩) l.length c) l :=
  ⟨flat_len E l, .inr ⟨g, c, cur.toArray, rfl, hB, h, hn, hc, by simpa using hl, by simpa using ht⟩⟩

theorem splice_len (L : List Value) (off : Nat) (cs : List Value) (h : off + cs.length ≤ L.length) : (splice L off cs).length = L.length := length_splice L off cs h
theorem splice_at {α : Type} (L : List α) (off : Nat) (cs : List α) (h : off + cs.length ≤ L.length) (j : Nat) : (splice L off cs)[j]? = if j < off then L[j]? else if j < off + cs.length then cs[j - off]? else L[j]? := by
  unfold splice
  by_cases h1 : j < off
  · rw [if_pos h1, List.getElem?_append_left (by simp; omega), List.getElem?_take, if_pos h1]
  · rw [if_neg h1, List.getElem?_append_right (by simp; omega)]
    have e : (L.take off).length = off := by simp; omega
    rw [e]
    by_cases h2 : j < off + cs.length
    · rw [if_pos h2, List.getElem?_append_left (by omega)]
    · rw [if_neg h2, List.getElem?_append_right (by omega), List.getElem?_drop]
      congr 1; omega

theorem run_storeRow (hg : BK w g t cur) (o : Nat) (hfit : o + cs.length ≤ cur.length) (h1 : ∀ v ∈ cs, v.oneCell' = true) : (storeCells ⟨g, o, none⟩ cs).run P w = .ok () (w.setRow g (splice cur o cs).toArray) := by
  have h := run_storeCells_at P g o t cs 0 cur.toArray w hg (by simpa using hfit) h1
  rw [h]
  simp [splice]
theorem add_lit (b o j : Nat) : (⟨b, o, none⟩ : Addr).add j = ⟨b, o + j, none⟩ := by unfold Addr.add; split <;> simp_all
theorem run_copyK {dT sT ty elem : TypeId} {i0 : TypeInfo} (hi : P.info? elem = some i0) (hu : P.underlying dT = some (.slice elem)) (o dLen dCap : Nat) (a : Addr) (sLen sCap : Nat) (hg : BK w g t cur)
    (hn : cs.length = Nat.min sLen dLen * i0.size) (hsrc : ∀ j v, cs[j]? = some v → w.cell? (a.add j) = some v) (hfit : o + cs.length ≤ cur.length) (h1 : ∀ v ∈ cs, v.oneCell' = true) :
    (Builtin.copy_ #[dT, sT] ty #[.slice (some ⟨g, o, none⟩) dLen dCap, .slice (some a) sLen sCap]).run P w = .ok (goInt (Nat.min sLen dLen)) (w.setRow g (splice cur o cs).toArray) := by
  have hf := run_firstCells_some (P := P) w i0.size (Nat.min sLen dLen) a sLen sCap cs hn hsrc
  have hst := run_storeRow (P := P) hg o hfit h1
  simp [Builtin.copy_, run_underlying hu, Builtin.lenOf, sizeOf, typeInfo, hi, hf, hst]
theorem run_appendK {tt tx ty elem : TypeId} {i0 : TypeInfo} (hi : P.info? elem = some i0) (hu : P.underlying tt = some (.slice elem)) (hx : P.underlying tx = some (.slice elem)) (n c : Nat) (a : Addr) (m sCap : Nat) (hg : BK w g t cur)
    (hn : cs.length = m * i0.size) (hroom : n + m ≤ c) (hsrc : ∀ j v, cs[j]? = some v → w.cell? (a.add j) = some v) (hfit : n * i0.size + cs.length ≤ cur.length) (h1 : ∀ v ∈ cs, v.oneCell' = true) :
    (Builtin.append_ #[tt, tx] ty #[.slice (some ⟨g, 0, none⟩) n c, .slice (some a) m sCap]).run P w = .ok (.slice (some ⟨g, 0, none⟩) (n + m) c) (w.setRow g (splice cur (n * i0.size) cs).toArray) := by
  have hs : Src P i0.size tx (.slice (some a) m sCap) m cs w := Src.ofSlice w hx a m sCap cs hn hsrc h1
  have h := run_append_room_src (P := P) w tt tx ty elem i0 hu hi g 0 n c (.slice (some a) m sCap) m cs hs hroom (fun j hj => by
    rw [Nat.zero_add, hg.cell, List.getElem?_eq_getElem (by omega)]; rfl) (fun j hj => by
    unfold BK at hg
    simp [World.frozen?, hg])
  rw [h]
  have h2 := run_storeRow (P := P) hg (n * i0.size) hfit h1
  have h3 := run_storeCells_cells (P := P) g (n * i0.size) cs 0 w (fun j hj => by rw [Nat.add_zero, hg.cell, List.getElem?_eq_getElem (by omega)]; rfl) (fun j hj => by
    unfold BK at hg
    simp [World.frozen?, hg]) h1
  rw [h2] at h3
  injection h3 with _ h3
  rw [h3]
  simp
theorem run_clearK {tt ty elem : TypeId} {i0 : TypeInfo} {z : Value} (hi : P.info? elem = some i0) (hz : i0.zero = some z) (hu : P.underlying tt = some (.slice elem)) (o n c : Nat) (hn : 0 < n) (hg : BK w g t cur)
    (hzs : z.cells.size = i0.size) (hfit : o + n * i0.size ≤ cur.length) (h1 : ∀ v ∈ (Builtin.zeroCells z.cells n).toList, v.oneCell' = true) :
    (Builtin.clear_ #[tt] ty #[.slice (some ⟨g, o, none⟩) n c]).run P w = .ok (.tuple #[]) (w.setRow g (splice cur o (Builtin.zeroCells z.cells n).toList).toArray) := by
  have hl : (Builtin.zeroCells z.cells n).toList.length = n * i0.size := by rw [Array.length_toList, size_zeroCells, hzs]
  have hst := run_storeRow (P := P) hg o (cs := (Builtin.zeroCells z.cells n).toList) (by rw [hl]; exact hfit) h1
  cases n with
  | zero => omega
  | succ n => simp [Builtin.clear_, run_underlying hu, zeroValue, typeInfo, hi, hz, hst]
end
section
variable {P : Program} {w : World} {ops : Array Oper} {rest : List Oper} {o : Oper} {a : Act} {Q : Exit → Act → World → Prop} {K : Act → World → Prop} {F : Prop}
/-- A copy whose run is known, at a plain region and at a step of one that draws: the world behind it is a letter. -/
theorem list_copy (hgd : o.guard = none) (d x : Operand) {dT sT : TypeId} (ho : o.op = .call { callee := .builtin .copy, args := #[d, x], argTypes := #[dT, sT] }) (v u : Value) (hd : a.eval d = v) (hx : a.eval x = u) {n : Nat} {g : Nat} {t : TypeId} {cur : List Value}
    (hg : BK w g t cur) {cs' : List Value} (hr : ∀ ty, (Builtin.copy_ #[dT, sT] ty #[v, u]).run P w = .ok (goInt n) (w.setRow g cs'.toArray))
    (h : ∀ w', Hid (BK w' g t cs') → Kg g w w' → wpList P ops Q rest (a.put o.dst (goInt n)) w') : wpList P ops Q (o :: rest) a w := by
  refine wpList_plain hgd fun K hK => ?_
  unfold Oper.wp execOp
  simp only [ho, resolve, invoke, builtin, Sem.run_bind, Sem.run_pure, Result.andThen_ok, List.map_toArray, List.map_cons, List.map_nil, hd, hx, hr]
  exact hK _ _ (h _ (hg.setRow cs') (Kg.setRow _ _ _))
theorem step_copy (hgd : o.guard = none) (d x : Operand) {dT sT : TypeId} (ho : o.op = .call { callee := .builtin .copy, args := #[d, x], argTypes := #[dT, sT] }) (v u : Value) (hd : a.eval d = v) (hx : a.eval x = u) {n : Nat} {g : Nat} {t : TypeId} {cur : List Value}
    (hg : BK w g t cur) {cs' : List Value} (hr : ∀ ty, (Builtin.copy_ #[dT, sT] ty #[v, u]).run P w = .ok (goInt n) (w.setRow g cs'.toArray))
    (h : ∀ w', Hid (BK w' g t cs') → Kg g w w' → K (a.put o.dst (goInt n)) w') : if Region.wanted o (yielded ops a.tmps) = true then Oper.wp P o a w K Q else F := by
  have hw : Region.wanted o (yielded ops a.tmps) = true := by simp [Region.wanted, hgd]
  rw [if_pos hw]
  unfold Oper.wp execOp
  simp only [ho, resolve, invoke, builtin, Sem.run_bind, Sem.run_pure, Result.andThen_ok, List.map_toArray, List.map_cons, List.map_nil, hd, hx, hr]
  exact h _ (hg.setRow cs') (Kg.setRow _ _ _)
/-- An append whose run is known to stay in its block. -/
theorem step_appK (hgd : o.guard = none) (d x : Operand) {dT sT : TypeId} (ho : o.op = .call { callee := .builtin .append, args := #[d, x], argTypes := #[dT, sT] }) (v u r : Value) (hd : a.eval d = v) (hx : a.eval x = u) {g : Nat} {t : TypeId} {cur : List Value}
    (hg : BK w g t cur) {cs' : List Value} (hr : ∀ ty, (Builtin.append_ #[dT, sT] ty #[v, u]).run P w = .ok r (w.setRow g cs'.toArray))
    (h : ∀ w', Hid (BK w' g t cs') → Kg g w w' → K (a.put o.dst r) w') : if Region.wanted o (yielded ops a.tmps) = true then Oper.wp P o a w K Q else F := by
  have hw : Region.wanted o (yielded ops a.tmps) = true := by simp [Region.wanted, hgd]
  rw [if_pos hw]
  unfold Oper.wp execOp
  simp only [ho, resolve, invoke, builtin, Sem.run_bind, Sem.run_pure, Result.andThen_ok, List.map_toArray, List.map_cons, List.map_nil, hd, hx, hr]
  exact h _ (hg.setRow cs') (Kg.setRow _ _ _)
theorem list_clear (hgd : o.guard = none) (d : Operand) {dT : TypeId} (ho : o.op = .call { callee := .builtin .clear, args := #[d], argTypes := #[dT] }) (v : Value) (hd : a.eval d = v) {g : Nat} {t : TypeId} {cur : List Value}
    (hg : BK w g t cur) {cs' : List Value} (hr : ∀ ty, (Builtin.clear_ #[dT] ty #[v]).run P w = .ok (.tuple #[]) (w.setRow g cs'.toArray))
    (h : ∀ w', Hid (BK w' g t cs') → Kg g w w' → wpList P ops Q rest (a.put o.dst (.tuple #[])) w') : wpList P ops Q (o :: rest) a w := by
  refine wpList_plain hgd fun K hK => ?_
  unfold Oper.wp execOp
  simp only [ho, resolve, invoke, builtin, Sem.run_bind, Sem.run_pure, Result.andThen_ok, List.map_toArray, List.map_cons, List.map_nil, hd, hr]
  exact hK _ _ (h _ (hg.setRow cs') (Kg.setRow _ _ _))
end
end Go.Proofs.Ytmhabjjabdambaa
namespace Go.Proofs.Ytmhabjjabdambaa
open Go.ChangeShapes Go.WideShapes Go.ChangeAt Go.RowKit
set_option linter.unusedVariables false
set_option linter.unusedSimpArgs false

theorem OW.setVal {w : World} {B : Nat} {e : TypeId} {g n c : Nat} {l : List IP} (h : OW w B e ePair (.slice (some ⟨g, 0, none⟩) n c) l) (k : Nat) (hk : k < l.length) (x : Int) :
    OW (w.setCell ⟨g, k * 2 + 1, none⟩ (.int .i64 x)) B e ePair (.slice (some ⟨g, 0, none⟩) n c) (l.set k (l[k].1, x)) := by
  obtain ⟨cur, hbk, hB, hnc, hcm, hcl, htk, hn⟩ := BK.of_ow h
  have hes : ePair.size = 2 := rfl
  rw [hes] at hcl htk
  have hn' : n = (l.set k (l[k].1, x)).length := by simp [hn]
  have hb2 : BK (w.setCell ⟨g, k * 2 + 1, none⟩ (.int .i64 x)) g e (cur.set (k * 2 + 1) (.int .i64 x)) := by
    unfold BK at hbk ⊢
    simp only [World.setCell, Array.getElem?_modify, hbk]
    simp
  rw [hn']
  refine BK.ow (E := ePair) hb2 hB (by omega) hcm (by rw [List.length_set, hcl, hes]) ?_
  have hf := flat_set_pair (l[k].1, x) l k
  rw [← hf, hes, List.take_set]
  simp only [List.length_set]
  rw [← hn, htk]
  congr 1
  symm
  apply List.ext_getElem?
  intro j
  by_cases hj : j = k * 2
  · subst hj
    have h1 := flat_at ePair l k hk 0 (by decide)
    rw [hes, Nat.add_zero] at h1
    rw [List.getElem?_set_self (by rw [flat_len, hes]; omega), h1]
    rfl
  · rw [List.getElem?_set_ne (by omega)]

theorem OW.cellPair {w : World} {B : Nat} {e : TypeId} {g n c : Nat} {l : List IP} (h : OW w B e ePair (.slice (some ⟨g, 0, none⟩) n c) l) (k : Nat) (hk : k < l.length) :
    w.cell? ⟨g, k * 2 + 1, none⟩ = some (.int .i64 l[k].2) ∧ w.frozen? ⟨g, k * 2 + 1, none⟩ = false := by
  obtain ⟨cur, hbk, _, _, _, _, _, hn⟩ := BK.of_ow h
  subst hn
  obtain ⟨b, o, e1, _, _, c1⟩ := h.rd.pair hk
  injection e1 with e1
  injection e1 with e2 e3
  subst e2 e3
  refine ⟨by rwa [Nat.zero_add] at c1, ?_⟩
  unfold BK at hbk
  simp [World.frozen?, hbk]

end Go.Proofs.Ytmhabjjabdambaa
namespace Go.Proofs.Ytmhabjjabdambaa
open Go.ChangeShapes Go.WideShapes Go.ChangeAt Go.RowKit
set_option linter.unusedVariables false
set_option linter.unusedSimpArgs false

def btw (n lo hi : Int) : Bool := decide (lo ≤ n ∧ n ≤ hi)
theorem btw_iff (n lo hi : Int) : btw n lo hi = true ↔ lo ≤ n ∧ n ≤ hi := by simp [btw]
theorem btw_f_iff (n lo hi : Int) : btw n lo hi = false ↔ ¬ (lo ≤ n ∧ n ≤ hi) := by simp [btw]
theorem btw_cases (n lo hi : Int) : (btw n lo hi = true ∧ lo ≤ n ∧ n ≤ hi) ∨ (btw n lo hi = false ∧ (n < lo ∨ hi < n)) := by
  by_cases h : lo ≤ n ∧ n ≤ hi
  · exact .inl ⟨(btw_iff _ _ _).2 h, h⟩
  · exact .inr ⟨(btw_f_iff _ _ _).2 h, by omega⟩

theorem between_any (n lo hi : Int) (w : World) :
    Calls Try.prog 12 #[.int .i64 n, .int .i64 lo, .int .i64 hi] w fun e w' => e = .returned (.bool (btw n lo hi)) ∧ w = w' := by
  by_cases h1 : lo ≤ n
  · by_cases h2 : n ≤ hi
    · go_enter Try.func12, Try.ntmps12
      go_wp2
      go_ret
      exact ⟨by simp [btw]; omega, rfl⟩
    · go_enter Try.func12, Try.ntmps12
      go_wp2
      go_ret
      exact ⟨by simp [btw]; omega, rfl⟩
  · go_enter Try.func12, Try.ntmps12
    go_wp2
    go_ret
    exact ⟨by simp [btw]; omega, rfl⟩
theorem between_to (n lo hi : Int) (b : Bool) (w : World) (h : btw n lo hi = b) :
    Calls Try.prog 12 #[.int .i64 n, .int .i64 lo, .int .i64 hi] w fun e w' => e = .returned (.bool b) ∧ w = w' := by
  have := between_any n lo hi w
  rwa [h] at this
theorem within_any (n lo hi : Int) (w : World) :
    Calls Try.prog 38 #[.int .i64 n, .int .i64 lo, .int .i64 hi] w fun e w' => e = .returned (.bool (btw n lo hi)) ∧ w = w' := by
  by_cases h1 : lo ≤ n
  · by_cases h2 : n ≤ hi
    · go_enter Try.func38, Try.ntmps38
      go_wp2
      go_ret
      exact ⟨by simp [btw]; omega, rfl⟩
    · go_enter Try.func38, Try.ntmps38
      go_wp2
      go_ret
      exact ⟨by simp [btw]; omega, rfl⟩
  · go_enter Try.func38, Try.ntmps38
    go_wp2
    go_ret
    exact ⟨by simp [btw]; omega, rfl⟩
theorem within_to (n lo hi : Int) (b : Bool) (w : World) (h : btw n lo hi = b) :
    Calls Try.prog 38 #[.int .i64 n, .int .i64 lo, .int .i64 hi] w fun e w' => e = .returned (.bool b) ∧ w = w' := by
  have := within_any n lo hi w
  rwa [h] at this
def mrFrom (last : Int) : List IP → Int
  | [] => 0
  | p :: t => if btw p.1 (last + 1) 1000000 then mrFrom p.1 t else 3
def mapRight (l : List IP) : Int := if l.length > 200 then 2 else mrFrom (-1) l
theorem mrFrom_drop (l : List IP) (k : Nat) (h : k < l.length) (last : Int) : mrFrom last (l.drop k) = if btw l[k].1 (last + 1) 1000000 then mrFrom l[k].1 (l.drop (k+1)) else 3 := by
  rw [List.drop_eq_getElem_cons h, mrFrom]
theorem mrFrom_end (l : List IP) (k : Nat) (h : ¬ k < l.length) (last : Int) : mrFrom last (l.drop k) = 0 := by
  rw [List.drop_of_length_le (by omega)]; rfl

def MRel (l : List IP) (w : World) (v i : Value) (wr : World) : Prop :=
  ∃ (k : Nat) (last : Int), k ≤ l.length ∧ i = .int .i64 k ∧ v = .int .i64 last ∧ -1 ≤ last ∧ last ≤ 1000000 ∧ mrFrom last (l.drop k) = mrFrom (-1) l ∧ Below w.heap.size w wr

theorem mapRight_len (l : List IP) (h : mapRight l = 0) : l.length ≤ 200 := by
  unfold mapRight at h
  split at h
  · omega
  · omega

def CRel (l : List IP) (w : World) (i : Value) (wr : World) : Prop :=
  ∃ (k : Nat) (last : Int), k ≤ l.length ∧ i = .int .i64 k ∧ -1 ≤ last ∧ last ≤ 1000000 ∧ (k = 0 → last = -1) ∧ (∀ h : k - 1 < l.length, 0 < k → last = l[k-1].1 ∧ 0 ≤ last) ∧ mrFrom last (l.drop k) = mrFrom (-1) l ∧ Below w.heap.size w wr

set_option maxHeartbeats 400000 in
theorem check_any (l : List IP) (v : Value) (w : World) (hr : RD w ePair v l) :
    Calls Try.prog 36 #[v] w (Ret (.int .i64 (mapRight l)) w) := by
  obtain ⟨A, c, rfl, hc, hm⟩ := hr.shape
  by_cases hlen : l.length > 200
  · go_enter Try.func36, Try.ntmps36
    go_wp2
    go_ret
    exact ⟨by simp [mapRight, hlen], Below.refl _ _⟩
  · have hres : Hid (mapRight l = mrFrom (-1) l) := hide (by simp [mapRight, hlen])
    have HR := hide hr
    clear hr
    go_enter Try.func36, Try.ntmps36
    go_wp2
    go_loopw [10] (CRel l w) (fun i wr => l.length - (intOf i).toNat)
    case atStart => exact ⟨0, -1, by omega, rfl, by omega, by omega, fun _ => rfl, fun _ h => by omega, rfl, Below.refl _ _⟩
    case round =>
      obtain ⟨k, last, hk, rfl, h1, h2, h3, h4, hmr, hbel⟩ := hrel
      have hmr' := hide hmr
      clear hmr
      have hz := hbel.size
      by_cases hlt : k < l.length
      · obtain ⟨b, o, rfl, hb, c0, c1⟩ := (HR.out.below hbel).pair hlt
        have hd := mrFrom_drop l k hlt last
        rcases btw_cases l[k].1 0 1000000 with ⟨hB, hb3, hb4⟩ | ⟨hB, hb3⟩
        · have hB' := hide hB
          clear hB
          by_cases hk0 : k = 0
          · have hl : last = -1 := h3 hk0
            have hd1 : btw l[k].1 (last + 1) 1000000 = true := (btw_iff _ _ _).2 ⟨by omega, hb4⟩
            rw [hd1, if_pos rfl] at hd
            have hd' := hide hd
            have hg : decide (0 < k) = false := by simp; omega
            have hl' := hide hl
            have hk0' := hide hk0
            clear hd hd1 h3 h4 hl hk0
            go_wp2_with fail
            go_quiet ((go_at_call 38; exact Calls.quiet_of_same ((within_to _ _ _ true _ hB'.out).mono fun _ _ h => ⟨h.1, h.2.symm⟩)))
            go_wp2
            go_roundw
            case rel => exact ⟨k+1, l[k].1, by omega, by go_num, by omega, by omega, fun h => by omega, fun _ _ => ⟨rfl, hb3⟩, by rw [← hd'.out, hmr'.out], (by repeat' (first | exact Below.refl _ _ | (with_reducible assumption) | apply Below.drew | apply below_drewN | apply Below.alloc | apply Below.setCell)
                                                                                                                                                                all_goals (first | omega | (simp; omega) | (simp; done)))⟩
            case measure => simp [intOf]; omega
          · obtain ⟨hl, hl0⟩ := h4 (by omega) (by omega)
            obtain ⟨b2, o2, e2, _, c2, _⟩ := (HR.out.below hbel).pair (k := k - 1) (by omega)
            injection e2 with e2
            injection e2 with e3 e4
            subst e3 e4
            have hg : decide (0 < k) = true := by simp; omega
            have hw1 : IntKind.i64.wrap ((k : Int) - 1) = (k : Int) - 1 := IntWalk.i64_in _ (by omega)
            have hw2 : (0 : Int) ≤ (k : Int) - 1 := by omega
            have hw3 : (k : Int) - 1 < (l.length : Int) := by omega
            have hw4 : ((k : Int) - 1).toNat = k - 1 := by omega
            by_cases hge : l[k].1 ≤ l[k-1].1
            · have hd1 : btw l[k].1 (last + 1) 1000000 = false := (btw_f_iff _ _ _).2 (by omega)
              rw [hd1, if_neg (by simp)] at hd
              have hd' := hide hd
              have hl' := hide hl
              clear hd hd1 h3 h4 hl hk0
              go_wp2_with fail
              go_quiet ((go_at_call 38; exact Calls.quiet_of_same ((within_to _ _ _ true _ hB'.out).mono fun _ _ h => ⟨h.1, h.2.symm⟩)))
              go_wp2
              go_ret
              exact ⟨by rw [hres.out, ← hmr'.out, hd'.out]; rfl, (by repeat' (first | exact Below.refl _ _ | (with_reducible assumption) | apply Below.drew | apply below_drewN | apply Below.alloc | apply Below.setCell)
                                                                     all_goals (first | omega | (simp; omega) | (simp; done)))⟩
            · have hd1 : btw l[k].1 (last + 1) 1000000 = true := (btw_iff _ _ _).2 ⟨by omega, hb4⟩
              rw [hd1, if_pos rfl] at hd
              have hd' := hide hd
              have hl' := hide hl
              clear hd hd1 h3 h4 hl hk0
              go_wp2_with fail
              go_quiet ((go_at_call 38; exact Calls.quiet_of_same ((within_to _ _ _ true _ hB'.out).mono fun _ _ h => ⟨h.1, h.2.symm⟩)))
              go_wp2
              go_roundw
              case rel => exact ⟨k+1, l[k].1, by omega, by go_num, by omega, by omega, fun h => by omega, fun _ _ => ⟨rfl, hb3⟩, by rw [← hd'.out, hmr'.out], (by repeat' (first | exact Below.refl _ _ | (with_reducible assumption) | apply Below.drew | apply below_drewN | apply Below.alloc | apply Below.setCell)
                                                                                                                                                                  all_goals (first | omega | (simp; omega) | (simp; done)))⟩
              case measure => simp [intOf]; omega
        · have hd1 : btw l[k].1 (last + 1) 1000000 = false := (btw_f_iff _ _ _).2 (by omega)
          rw [hd1, if_neg (by simp)] at hd
          have hd' := hide hd
          have hB' := hide hB
          clear hd hd1 h3 h4 hB hb3
          go_wp2_with fail
          go_quiet ((go_at_call 38; exact Calls.quiet_of_same ((within_to _ _ _ false _ hB'.out).mono fun _ _ h => ⟨h.1, h.2.symm⟩)))
          go_wp2
          go_ret
          exact ⟨by rw [hres.out, ← hmr'.out, hd'.out]; rfl, (by repeat' (first | exact Below.refl _ _ | (with_reducible assumption) | apply Below.drew | apply below_drewN | apply Below.alloc | apply Below.setCell)
                                                                 all_goals (first | omega | (simp; omega) | (simp; done)))⟩
      · go_wp2
        go_ret
        exact ⟨by rw [hres.out, ← hmr'.out, mrFrom_end _ _ hlt]; rfl, hbel⟩
end Go.Proofs.Ytmhabjjabdambaa
