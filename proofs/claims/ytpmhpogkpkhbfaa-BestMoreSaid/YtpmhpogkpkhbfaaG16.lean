/-
  hedgref.Reversed of ints: what it answers. Conditions: the list reads as it is named (RD).
  best.Roots: what it answers. Conditions: the lists read as they are named (RD).
  copy, append within the capacity, clear, append of zeros: at slices of elements of several cells, in a block that is known whole; slices.overlaps of two blocks. Conditions: those of each law.
  slices.Clone at ints; the row of the ops. Conditions: the list reads as l (RD).
-/
import Derived.Test.YtpmhpogkpkhbfaaG2
import Derived.Test.YtpmhpogkpkhbfaaG11
import Derived.Test.YtpmhpogkpkhbfaaG6
import Derived.Test.YtpmhpogkpkhbfaaG4
import Derived.Laws.CopyOwn
import Derived.Lib.AppendZerosOnto
import Derived.Lib.Overlaps
import Derived.Lib.SliceRun

namespace Go.Proofs.Ytpmhpogkpkhbfaa
open Go.ChangeShapes Go.WideShapes Go.ChangeAt Go.RowKit
set_option linter.unusedVariables false
set_option linter.unusedSimpArgs false

def RvRel (l : List Int) (w : World) (ov kv : Value) (wr : World) : Prop := ∃ j : Nat, j ≤ l.length ∧ kv = .int .i64 ((j : Int) - 1) ∧ OW wr w.heap.size 3 eInt ov (l.drop j).reverse ∧ Kp w wr
set_option maxRecDepth 100000 in
set_option maxHeartbeats 1000000 in
theorem reversed_any (l : List Int) (v : Value) (w : World) (hr : RD w eInt v l) (hn : l.length * 8 ≤ 140737488355328) : Calls Try.prog 9 #[v] w (RetOW 3 eInt l.reverse w) := by
  obtain ⟨A, c, rfl, hc, hm⟩ := hr.shape
  have HR := hide hr
  have s1 : IntKind.i64.wrap ((l.length : Int) - 1) = (l.length : Int) - 1 := IntWalk.i64_in _ (by omega)
  clear hr
  go_enter Try.func9, Try.ntmps9
  go_wp2
  go_loopw [3, 4] (RvRel l w) (fun _ k _ => (intOf k + 1).toNat)
  case atStart => exact ⟨l.length, Nat.le_refl _, rfl, by rw [List.drop_length]; exact OW.nil, Kp.refl _⟩
  case round =>
    obtain ⟨j, hj, rfl, ho, hkp⟩ := hrel
    have HO := hide ho
    have HHI := hide ho.hi
    cases j with
    | zero =>
      have e : Hid ((l.drop 0).reverse = l.reverse) := hide (by rw [List.drop_zero])
      clear ho
      go_wp2
      go_ret
      exact ⟨_, rfl, by rw [← e.out]; exact HO.out, hkp.bel⟩
    | succ k =>
      have hlt : k < l.length := by omega
      obtain ⟨b, o, rfl, _, c0⟩ := (HR.out.kp hkp).int hlt
      obtain ⟨y, hy⟩ : ∃ y, y = l[k] := ⟨_, rfl⟩
      rw [← hy] at c0
      have HN : Hid ((l.drop (k + 1)).reverse ++ [y] = (l.drop k).reverse) := hide (by rw [List.drop_eq_getElem_cons hlt, List.reverse_cons, hy])
      obtain ⟨X, hX⟩ : ∃ X, X = (l.drop (k + 1)).reverse := ⟨_, rfl⟩
      rw [← hX] at HO HN
      have hol : X.length + 1 ≤ l.length := by rw [hX]; simp; omega
      have HM1 : Hid ((X.length + [y].length) * 8 ≤ 140737488355328) := hide (by simp; omega)
      have HM2 : Hid (X.length + [y].length ≤ maxLen) := hide (by simp [maxLen]; omega)
      have e0 : ((k + 1 : Nat) : Int) - 1 = (k : Int) := by omega
      rw [e0]
      have k0 : (0 : Int) ≤ (k : Int) := by omega
      have k1 : (k : Int) < (l.length : Int) := by omega
      have s2 : IntKind.i64.wrap ((k : Int) - 1) = (k : Int) - 1 := IntWalk.i64_in _ (by omega)
      clear hy ho hX hol
      go_wp2_with (at_builtin; (with_reducible refine list_app (B := w.heap.size) (l := X) (m := [y]) row_int u3 ?_ (.tmp 12) (.tmp 17) ?_ ?_ ?_ ?_ HM1.out HM2.out ?_ ?_); (with_reducible rfl); (with_reducible rfl); rfl; (exact HO.out.alloc _); (show RD _ _ (.slice (some ⟨_, 0, none⟩) 1 1) _; (focus ((repeat (first | (with_reducible assumption) | exact RD.new1 _ rfl | (refine RD.new1e _ ?_ rfl; simp; done) | (with_reducible apply RD.alloc) | (with_reducible apply RD.drew) | (with_reducible apply RD.drewN) | ((with_reducible apply RD.belowR); (with_reducible assumption)))); done))); (have := hkp.size; simp; omega); intro v3 w3 ho3 hg3 hat3)
      go_roundw
      case rel => exact ⟨k, by omega, rfl, by rw [← HN.out]; exact ho3, Kp.app hg3 hkp.alloc HHI.out⟩
      case measure => simp [intOf] <;> omega
end Go.Proofs.Ytpmhpogkpkhbfaa
namespace Go.Proofs.Ytpmhpogkpkhbfaa
open Go.ChangeShapes Go.WideShapes Go.ChangeAt Go.RowKit
set_option linter.unusedVariables false
set_option linter.unusedSimpArgs false

def rowB (T : Nat → Nat → Int) (n k : Nat) : List Int := ((List.range (n + 1)).map (T k)).drop (k + 1)
def rowsB (T : Nat → Nat → Int) (n : Nat) : List (List Int) := (List.range n).map (rowB T n)
def rtB (hits gaps : List Int) : List (List Int) × Int := if brR hits gaps = 0 then (rowsB (bt (gD hits) (gD gaps)) hits.length, 0) else ([], brR hits gaps)
theorem rowB_len {T : Nat → Nat → Int} {n k : Nat} : (rowB T n k).length = n - k := by
  unfold rowB
  rw [List.length_drop, List.length_map, List.length_range]; omega
theorem rowB_at {T : Nat → Nat → Int} {n k q : Nat} (h : q < (rowB T n k).length) : (rowB T n k)[q] = T k (k + 1 + q) := by
  simp only [rowB, List.getElem_drop, List.getElem_map, List.getElem_range]
theorem rowB_congr {T T' : Nat → Nat → Int} {n k : Nat} (h : ∀ j, k < j → j ≤ n → T k j = T' k j) : rowB T n k = rowB T' n k := by
  apply List.ext_getElem (by rw [rowB_len, rowB_len])
  intro q h1 h2
  rw [rowB_at, rowB_at]
  rw [rowB_len] at h1
  exact h _ (by omega) (by omega)
def RrPost (r : List (List Int) × Int) (w : World) (e : Ending) (w' : World) : Prop := ∃ v, e = .returned (.tuple #[v, .int .i64 r.2]) ∧ RDS w' eInt v r.1 ∧ Kp w w'
def RtRel (T : Nat → Nat → Int) (n : Nat) (w : World) (ov iv : Value) (wr : World) : Prop := ∃ k : Nat, k ≤ n ∧ iv = .int .i64 (k : Int) ∧ OWS wr w.heap.size 22 3 eInt ov ((rowsB T n).take k) ∧ Kp w wr
set_option maxRecDepth 100000 in
set_option maxHeartbeats 8000000 in
theorem bRoots_any (hits gaps : List Int) (v u : Value) (w : World) (hr : RD w eInt v hits) (hu : RD w eInt u gaps) : Calls Try.prog 12 #[v, u] w (RrPost (rtB hits gaps) w) := by
  have HRI := hide (right_any hits gaps v u w hr hu)
  obtain ⟨A1, c1, rfl, _, _⟩ := hr.shape
  obtain ⟨A2, c2, rfl, _, _⟩ := hu.shape
  have HR := hide hr
  have HU := hide hu
  clear hr hu
  by_cases he : brR hits gaps = 0
  · obtain ⟨b1, b2, b3, b4⟩ := brR_ok he
    rw [he] at HRI
    have HFI := hide (fun W v u h1 h2 => filled_any hits gaps v u W h1 h2 b1 b2 b3 b4)
    have HE := hide (show rtB hits gaps = _ from if_pos he)
    obtain ⟨n, hn⟩ : ∃ n, n = hits.length := ⟨_, rfl⟩
    obtain ⟨h, hh⟩ : ∃ h, h = gD hits := ⟨_, rfl⟩
    obtain ⟨g, hg⟩ : ∃ g, g = gD gaps := ⟨_, rfl⟩
    rw [← hh, ← hg, ← hn] at HFI HE
    rw [← hn] at b1
    have hn20 := b1
    rw [← hn]
    have HN := hide hn
    clear he hh hg b1 b2 b3 b4
    rw [← hn] at HR HRI
    clear hn
    go_enter Try.func12, Try.ntmps12
    go_wp2_with fail
    with_reducible refine HRI.out.mono ?_
    rintro e w1 ⟨rfl, hb1⟩
    have kk1 : Kp w w1 := Kp.of hb1
    clear hb1
    go_wp2_with fail
    with_reducible refine (HFI.out w1 _ _ (HR.out.kp kk1) (HU.out.kp kk1)).mono ?_
    rintro e w2 ⟨x1, x3, P2, N2, C2, M, rfl, hx1, hx3, hM, kk2⟩
    obtain ⟨P1, C1, rfl, _, _⟩ := hx1.shape
    obtain ⟨P3, C3, rfl, _, _⟩ := hx3.shape
    have HX3 := hide hx3
    have HM := hide hM
    have K2 := hide (kk1.trans kk2)
    simp only [List.length_map, List.length_range] at HX3 ⊢
    clear hx1 hx3 hM kk1 kk2
    go_wp2_with fail
    obtain ⟨W, hW⟩ : ∃ W, W = w2.alloc (.cells #[.slice P1 (n + 1) C1, .slice P2 N2 C2, .slice P3 (n + 1) C3] 56) := ⟨_, rfl⟩
    have hbx : BC W w2.heap.size 56 [.slice P1 (n + 1) C1, .slice P2 N2 C2, .slice P3 (n + 1) C3] := by rw [hW]; exact BC.new w2 _ [_, _, _]
    have hkx : Kp w2 W := by rw [hW]; exact (Kp.refl _).alloc
    rw [← hW]
    have HY := hide (hbx.cell 2)
    have HXW : Hid (RDS W eInt (.slice P3 (n + 1) C3) (tabL (M 2) (n + 1))) := hide (HX3.out.kp hkx)
    have KW := hide (K2.out.trans hkx)
    have HRW : Hid (rowsB (M 2) n = rowsB (bt h g) n) := hide (by
      unfold rowsB
      apply List.map_congr_left
      intro k hk
      exact rowB_congr fun j h1 h2 => (HM.out k j (by omega) h2).2 h1)
    clear hW hbx hkx
    go_loopw [8, 21] (RtRel (M 2) n W) (fun _ k _ => n - (intOf k).toNat)
    case atStart => exact ⟨0, by omega, rfl, OWS.nil, Kp.refl _⟩
    case round =>
      obtain ⟨k, hk, rfl, hows, hkp⟩ := hrel
      have HKP := hide hkp
      by_cases hlt : k < n
      · obtain ⟨b, o, u0, hA, _, cu, hu0⟩ := (HXW.out.kp hkp).at_ (k := k) (by rw [tabL_len]; omega)
        have hrow : (tabL (M 2) (n + 1))[k]'(by rw [tabL_len]; omega) = (List.range (n + 1)).map (M 2 k) := by simp [tabL]
        rw [hrow] at hu0
        subst hA
        obtain ⟨A3, cc, rfl, hcc1, hcc2⟩ := hu0.shape
        obtain ⟨b', o', rfl, _, _⟩ := hu0.int (k := 0) (by simp)
        simp only [List.length_map, List.length_range] at hu0 cu hcc1
        obtain ⟨k1, hk1⟩ : ∃ k1, k1 = k + 1 := ⟨_, rfl⟩
        have s1 : IntKind.i64.wrap ((k : Int) + 1) = (k1 : Int) := by rw [IntWalk.i64_in _ (by omega)]; omega
        have hd := hu0.dropS (k := k1) (by simp; omega) (A' := some ⟨b', o' + k1, none⟩) (s := 1) rfl (by rw [if_neg (by omega), Nat.mul_one])
        simp only [List.length_map, List.length_range] at hd
        have hrb : ((List.range (n + 1)).map (M 2 k)).drop k1 = rowB (M 2) n k := by rw [hk1]; rfl
        rw [hrb] at hd
        have y2 : wr.cell? ⟨w2.heap.size, 2, none⟩ = some (.slice (some ⟨b, o, none⟩) (n + 1) C3) := hkp.cell HY.out
        have y3 := ((Kp.refl wr).alloc (o := .cells #[] 3)).cell y2
        have cu3 := ((Kp.refl wr).alloc (o := .cells #[] 3)).cell cu
        have hrl := rowB_len (T := M 2) (n := n) (k := k)
        have HST : Hid ((rowsB (M 2) n).take k ++ [rowB (M 2) n k] = (rowsB (M 2) n).take (k + 1)) := hide (by
          have hl : k < (rowsB (M 2) n).length := by simp [rowsB]; exact hlt
          rw [List.take_succ_eq_append_getElem hl]
          congr 2
          simp [rowsB])
        obtain ⟨RB, hRB⟩ : ∃ RB, RB = rowB (M 2) n k := ⟨_, rfl⟩
        rw [← hRB] at hd hrl HST
        obtain ⟨vs, hv, hvl, hin⟩ := hows
        have hvk : vs.length ≤ 20 := by rw [hvl]; simp; omega
        obtain ⟨A6, c6, hu6, _, _⟩ := hv.rd.shape
        subst hu6
        have HV := hide hv
        have HVL := hide hvl
        have HIN := hide hin
        have HD := hide hd
        have HN1 : Hid ((([] : List Int).length + RB.length) * 8 ≤ 140737488355328) := hide (by simp; omega)
        have HN2 : Hid (([] : List Int).length + RB.length ≤ maxLen) := hide (by simp [maxLen]; omega)
        have HSZ := hide hkp.size
        have hk1n : k1 < n + 1 := by omega
        have hk1c : k1 < cc := by omega
        have hk1c' : k1 ≤ cc := by omega
        have hkn : k < n + 1 := by omega
        have HK1 := hide hk1
        clear hv hvl hin hd hrl hRB hrb hrow hu0 hk1 hkp
        go_wp2_with (first
          | ((at_builtin; (with_reducible refine list_app (B := W.heap.size) (l := ([] : List Int)) (m := RB) row_int (.slice (some ⟨wr.heap.size, 0, none⟩) 0 0) ?_ (.tmp 25) (.tmp 33) ?_ ?_ ?_ ?_ HN1.out HN2.out ?_ ?_); (with_reducible rfl); (with_reducible rfl); rfl; (exact OW.emptyE rfl HSZ.out); (exact HD.out.alloc _); (have := HSZ.out; simp; omega); intro v3 w3 ho3 hg3 hat3; have k3 : Kp wr w3 := Kp.app hg3 (Kp.refl wr).alloc (fun q hq => by simp [Value.ownBlock] at hq; omega); obtain ⟨A5, N5, c5, rfl⟩ := ho3.rd.slice; have k3' := k3.size))
          | ((at_builtin; (with_reducible refine list_app (B := W.heap.size) (l := vs) (m := [(⟨.slice A5 N5 c5, slice_one A5 N5 c5⟩ : V1)]) row_ints (.slice A6 vs.length c6) ?_ (.tmp 24) (.tmp 35) ?_ ?_ ?_ ?_ (by simp; omega) (by simp [maxLen]; omega) ?_ ?_); (with_reducible rfl); (with_reducible rfl); rfl; (exact (HV.out.kp k3).alloc _); (show RD _ _ (.slice (some ⟨_, 0, none⟩) 1 1) _; exact RD.new1e _ (by simp) rfl); (have := HSZ.out; have := k3'; simp; omega); intro v4 w4 ho4 hg4 hat4)))
        go_roundw
        case rel =>
          have kka : Kp w3 (w3.alloc (.cells #[.slice A5 N5 c5] 22)) := (Kp.refl _).alloc
          have h1 := OWS.app (u := ⟨.slice A5 N5 c5, slice_one A5 N5 c5⟩) (l := RB) ((HV.out.kp k3).kp kka) HVL.out (fun k a b => ((HIN.out k a b).kp k3).kp kka) (by decide) (by rw [List.nil_append] at ho3; exact ho3.kp kka) ho4 hg4
          exact ⟨k1, by have := HK1.out; omega, rfl, by rw [HK1.out, ← HST.out]; exact h1, Kp.app hg4 ((HKP.out.trans k3).alloc) HV.out.hi⟩
        case measure => have := HK1.out; simp [intOf]; omega
      · obtain rfl : k = n := by omega
        have e : (rowsB (M 2) k).take k = rowsB (M 2) k := List.take_of_length_le (by simp [rowsB])
        rw [e] at hows
        have HO := hide hows
        clear e hkp hows
        go_wp2
        go_ret2
        exact ⟨_, by rw [HE.out]; rfl, by rw [HE.out]; simp only; rw [← HRW.out]; exact HO.out.rds (by simp [rowsB, maxLen]; omega), KW.out.trans HKP.out⟩
  · have HE := hide (show rtB hits gaps = _ from if_neg he)
    obtain ⟨er, her⟩ : ∃ er, er = brR hits gaps := ⟨_, rfl⟩
    rw [← her] at HRI HE he
    have d1 : (er != 0) = true := by simpa using he
    clear he her
    go_enter Try.func12, Try.ntmps12
    go_wp2_with fail
    with_reducible refine HRI.out.mono ?_
    rintro e w1 ⟨rfl, hb1⟩
    have kk1 : Kp w w1 := Kp.of hb1
    clear hb1
    go_wp2
    go_ret2
    exact ⟨_, by rw [HE.out]; rfl, by rw [HE.out]; exact ⟨none, 0, rfl, Nat.le_refl _, by decide, fun h => by simp at h⟩, kk1⟩
end Go.Proofs.Ytpmhpogkpkhbfaa
namespace Go.Proofs.Ytpmhpogkpkhbfaa
open Go.ChangeShapes Go.WideShapes Go.ChangeAt Go.RowKit
set_option linter.unusedVariables false
set_option linter.unusedSimpArgs false

/-- The block g is just these cells. -/
def BK (w : World) (g : Nat) (t : TypeId) (cur : List Value) : Prop := w.heap[g]? = some (.cells cur.toArray t (0, 0))
section
variable {P : Program} {w w' : World} {g : Nat} {t : TypeId} {cur cs : List Value}
theorem BK.lt (h : BK w g t cur) : g < w.heap.size := (Array.getElem?_eq_some_iff.1 h).1
theorem BK.kp (h : BK w g t cur) (hk : Kp w w') : BK w' g t cur := (hk.bel.block g h.lt).trans h
theorem BK.kg {b : Nat} (h : BK w g t cur) (hn : g ≠ b) (hk : Kg b w w') : BK w' g t cur := (hk.block h.lt hn).trans h
theorem BK.cell (h : BK w g t cur) (j : Nat) : w.cell? ⟨g, j, none⟩ = cur[j]? := by
  rw [cell_of_row w g j _ t (0, 0) h]; simp
theorem Kg.setRow (w : World) (g : Nat) (cs : Array Value) : Kg g w (w.setRow g cs) := ⟨rfl, rfl, rfl, by simp, fun k hk hn => setRow_other w g k cs (fun e => hn (by rw [e]))⟩
theorem BK.setRow (h : BK w g t cur) (cs : List Value) : BK (w.setRow g cs.toArray) g t cs := setRow_heap w g _ _ t _ h
theorem BK.of_ow {α : Type} {B : Nat} {E : Enc α} {e : TypeId} {n c : Nat} {l : List α} (h : OW w B e E (.slice (some ⟨g, 0, none⟩) n c) l) : ∃ cur : List Value, BK w g e cur ∧ B ≤ g ∧ n ≤ c ∧ c ≤ maxLen ∧ cur.length = c * E.size ∧ cur.take (n * E.size) = l.flatMap E.cells ∧ n = l.length := by
  obtain ⟨h1, h2⟩ := h
  have hn : n = l.length := by
    rcases h2 with ⟨h2, _⟩ | ⟨g', cap, cur, hv, _⟩
    · cases h2
    · injection hv
  rcases h2 with ⟨h2, _⟩ | ⟨g', cap, cur, hv, hb, hg, h3, h4, h5, h6⟩
  · cases h2
  · injection hv with e1 e2 e3
    injection e1 with e1
    injection e1 with e1 _
    subst e1 e3
    refine ⟨cur.toList, ?_, hb, by omega, h4, by simpa using h5, by rw [hn]; simpa using h6, hn⟩
    unfold BK
    simpa using hg
theorem BK.ow {α : Type} {B : Nat} {E : Enc α} {e : TypeId} {c : Nat} {l : List α} (h : BK w g e cur) (hB : B ≤ g) (hn : l.length ≤ c) (hc : c ≤ maxLen) (hl : cur.length = c * E.size) (ht : cur.take (l.length * E.size) = l.flatMap E.cells) :
    OW w B e E (.slice (some ⟨g, 0, none⟩) l.length c) l :=
  ⟨flat_len E l, .inr ⟨g, c, cur.toArray, rfl, hB, h, hn, hc, by simpa using hl, by simpa using ht⟩⟩

theorem splice_len (L : List Value) (off : Nat) (cs : List Value) (h : off + cs.length ≤ L.length) : (splice L off cs).length = L.length := length_splice L off cs h
theorem splice_at {α : Type} (L : List α) (off : Nat) (cs : List α) (h : off + cs.length ≤ L.length) (j : Nat) : (splice L off cs)[j]? = if j < off then L[j]? else if j < off + cs.length then cs[j - off]? else L[j]? := by
  unfold splice
  by_cases h1 : j < off
  · rw [if_pos h1, List.getElem?_append_left (by simp; omega), List.getElem?_take, if_pos h1]
  · rw [if_neg h1, List.getElem?_append_right (by simp; omega)]
    have e : (L.take off).length = off := by simp; omega
    rw [e]
    by_cases h2 : j < off + cs.length
    · rw [if_pos h2, List.getElem?_append_left (by omega)]
    · rw [if_neg h2, List.getElem?_append_right (by omega), List.getElem?_drop]
      congr 1; omega

theorem run_storeRow (hg : BK w g t cur) (o : Nat) (hfit : o + cs.length ≤ cur.length) (h1 : ∀ v ∈ cs, v.oneCell' = true) : (storeCells ⟨g, o, none⟩ cs).run P w = .ok () (w.setRow g (splice cur o cs).toArray) := by
  have h := run_storeCells_at P g o t cs 0 cur.toArray w hg (by simpa using hfit) h1
  rw [h]
  simp [splice]
theorem add_lit (b o j : Nat) : (⟨b, o, none⟩ : Addr).add j = ⟨b, o + j, none⟩ := by unfold Addr.add; split <;> simp_all
theorem run_copyK {dT sT ty elem : TypeId} {i0 : TypeInfo} (hi : P.info? elem = some i0) (hu : P.underlying dT = some (.slice elem)) (o dLen dCap : Nat) (a : Addr) (sLen sCap : Nat) (hg : BK w g t cur)
    (hn : cs.length = Nat.min sLen dLen * i0.size) (hsrc : ∀ j v, cs[j]? = some v → w.cell? (a.add j) = some v) (hfit : o + cs.length ≤ cur.length) (h1 : ∀ v ∈ cs, v.oneCell' = true) :
    (Builtin.copy_ #[dT, sT] ty #[.slice (some ⟨g, o, none⟩) dLen dCap, .slice (some a) sLen sCap]).run P w = .ok (goInt (Nat.min sLen dLen)) (w.setRow g (splice cur o cs).toArray) := by
  have hf := run_firstCells_some (P := P) w i0.size (Nat.min sLen dLen) a sLen sCap cs hn hsrc
  have hst := run_storeRow (P := P) hg o hfit h1
  simp [Builtin.copy_, run_underlying hu, Builtin.lenOf, sizeOf, typeInfo, hi, hf, hst]
theorem run_appendK {tt tx ty elem : TypeId} {i0 : TypeInfo} (hi : P.info? elem = some i0) (hu : P.underlying tt = some (.slice elem)) (hx : P.underlying tx = some (.slice elem)) (n c : Nat) (a : Addr) (m sCap : Nat) (hg : BK w g t cur)
    (hn : cs.length = m * i0.size) (hroom : n + m ≤ c) (hsrc : ∀ j v, cs[j]? = some v → w.cell? (a.add j) = some v) (hfit : n * i0.size + cs.length ≤ cur.length) (h1 : ∀ v ∈ cs, v.oneCell' = true) :
    (Builtin.append_ #[tt, tx] ty #[.slice (some ⟨g, 0, none⟩) n c, .slice (some a) m sCap]).run P w = .ok (.slice (some ⟨g, 0, none⟩) (n + m) c) (w.setRow g (splice cur (n * i0.size) cs).toArray) := by
  have hs : Src P i0.size tx (.slice (some a) m sCap) m cs w := Src.ofSlice w hx a m sCap cs hn hsrc h1
  have h := run_append_room_src (P := P) w tt tx ty elem i0 hu hi g 0 n c (.slice (some a) m sCap) m cs hs hroom (fun j hj => by
    rw [Nat.zero_add, hg.cell, List.getElem?_eq_getElem (by omega)]; rfl) (fun j hj => by
    unfold BK at hg
    simp [World.frozen?, hg])
  rw [h]
  have h2 := run_storeRow (P := P) hg (n * i0.size) hfit h1
  have h3 := run_storeCells_cells (P := P) g (n * i0.size) cs 0 w (fun j hj => by rw [Nat.add_zero, hg.cell, List.getElem?_eq_getElem (by omega)]; rfl) (fun j hj => by
    unfold BK at hg
    simp [World.frozen?, hg]) h1
  rw [h2] at h3
  injection h3 with _ h3
  rw [h3]
  simp
theorem run_clearK {tt ty elem : TypeId} {i0 : TypeInfo} {z : Value} (hi : P.info? elem = some i0) (hz : i0.zero = some z) (hu : P.underlying tt = some (.slice elem)) (o n c : Nat) (hn : 0 < n) (hg : BK w g t cur)
    (hzs : z.cells.size = i0.size) (hfit : o + n * i0.size ≤ cur.length) (h1 : ∀ v ∈ (Builtin.zeroCells z.cells n).toList, v.oneCell' = true) :
    (Builtin.clear_ #[tt] ty #[.slice (some ⟨g, o, none⟩) n c]).run P w = .ok (.tuple #[]) (w.setRow g (splice cur o (Builtin.zeroCells z.cells n).toList).toArray) := by
  have hl : (Builtin.zeroCells z.cells n).toList.length = n * i0.size := by rw [Array.length_toList, size_zeroCells, hzs]
  have hst := run_storeRow (P := P) hg o (cs := (Builtin.zeroCells z.cells n).toList) (by rw [hl]; exact hfit) h1
  cases n with
  | zero => omega
  | succ n => simp [Builtin.clear_, run_underlying hu, zeroValue, typeInfo, hi, hz, hst]
end
section
variable {P : Program} {w : World} {ops : Array Oper} {rest : List Oper} {o : Oper} {a : Act} {Q : Exit → Act → World → Prop} {K : Act → World → Prop} {F : Prop}
/-- A copy whose run is known, at a plain region and at a step of one that draws: the world behind it is a letter. -/
theorem list_copy (hgd : o.guard = none) (d x : Operand) {dT sT : TypeId} (ho : o.op = .call { callee := .builtin .copy, args := #[d, x], argTypes := #[dT, sT] }) (v u : Value) (hd : a.eval d = v) (hx : a.eval x = u) {n : Nat} {g : Nat} {t : TypeId} {cur : List Value}
    (hg : BK w g t cur) {cs' : List Value} (hr : ∀ ty, (Builtin.copy_ #[dT, sT] ty #[v, u]).run P w = .ok (goInt n) (w.setRow g cs'.toArray))
    (h : ∀ w', Hid (BK w' g t cs') → Kg g w w' → wpList P ops Q rest (a.put o.dst (goInt n)) w') : wpList P ops Q (o :: rest) a w := by
  refine wpList_plain hgd fun K hK => ?_
  unfold Oper.wp execOp
  simp only [ho, resolve, invoke, builtin, Sem.run_bind, Sem.run_pure, Result.andThen_ok, List.map_toArray, List.map_cons, List.map_nil, hd, hx, hr]
  exact hK _ _ (h _ (hg.setRow cs') (Kg.setRow _ _ _))
theorem step_copy (hgd : o.guard = none) (d x : Operand) {dT sT : TypeId} (ho : o.op = .call { callee := .builtin .copy, args := #[d, x], argTypes := #[dT, sT] }) (v u : Value) (hd : a.eval d = v) (hx : a.eval x = u) {n : Nat} {g : Nat} {t : TypeId} {cur : List Value}
    (hg : BK w g t cur) {cs' : List Value} (hr : ∀ ty, (Builtin.copy_ #[dT, sT] ty #[v, u]).run P w = .ok (goInt n) (w.setRow g cs'.toArray))
    (h : ∀ w', Hid (BK w' g t cs') → Kg g w w' → K (a.put o.dst (goInt n)) w') : if Region.wanted o (yielded ops a.tmps) = true then Oper.wp P o a w K Q else F := by
  have hw : Region.wanted o (yielded ops a.tmps) = true := by simp [Region.wanted, hgd]
  rw [if_pos hw]
  unfold Oper.wp execOp
  simp only [ho, resolve, invoke, builtin, Sem.run_bind, Sem.run_pure, Result.andThen_ok, List.map_toArray, List.map_cons, List.map_nil, hd, hx, hr]
  exact h _ (hg.setRow cs') (Kg.setRow _ _ _)
/-- An append whose run is known to stay in its block. -/
theorem step_appK (hgd : o.guard = none) (d x : Operand) {dT sT : TypeId} (ho : o.op = .call { callee := .builtin .append, args := #[d, x], argTypes := #[dT, sT] }) (v u r : Value) (hd : a.eval d = v) (hx : a.eval x = u) {g : Nat} {t : TypeId} {cur : List Value}
    (hg : BK w g t cur) {cs' : List Value} (hr : ∀ ty, (Builtin.append_ #[dT, sT] ty #[v, u]).run P w = .ok r (w.setRow g cs'.toArray))
    (h : ∀ w', Hid (BK w' g t cs') → Kg g w w' → K (a.put o.dst r) w') : if Region.wanted o (yielded ops a.tmps) = true then Oper.wp P o a w K Q else F := by
  have hw : Region.wanted o (yielded ops a.tmps) = true := by simp [Region.wanted, hgd]
  rw [if_pos hw]
  unfold Oper.wp execOp
  simp only [ho, resolve, invoke, builtin, Sem.run_bind, Sem.run_pure, Result.andThen_ok, List.map_toArray, List.map_cons, List.map_nil, hd, hx, hr]
  exact h _ (hg.setRow cs') (Kg.setRow _ _ _)
theorem list_clear (hgd : o.guard = none) (d : Operand) {dT : TypeId} (ho : o.op = .call { callee := .builtin .clear, args := #[d], argTypes := #[dT] }) (v : Value) (hd : a.eval d = v) {g : Nat} {t : TypeId} {cur : List Value}
    (hg : BK w g t cur) {cs' : List Value} (hr : ∀ ty, (Builtin.clear_ #[dT] ty #[v]).run P w = .ok (.tuple #[]) (w.setRow g cs'.toArray))
    (h : ∀ w', Hid (BK w' g t cs') → Kg g w w' → wpList P ops Q rest (a.put o.dst (.tuple #[])) w') : wpList P ops Q (o :: rest) a w := by
  refine wpList_plain hgd fun K hK => ?_
  unfold Oper.wp execOp
  simp only [ho, resolve, invoke, builtin, Sem.run_bind, Sem.run_pure, Result.andThen_ok, List.map_toArray, List.map_cons, List.map_nil, hd, hr]
  exact hK _ _ (h _ (hg.setRow cs') (Kg.setRow _ _ _))
end
end Go.Proofs.Ytpmhpogkpkhbfaa
namespace Go.Proofs.Ytpmhpogkpkhbfaa
open Go.ChangeShapes Go.WideShapes Go.ChangeAt Go.RowKit
set_option linter.unusedVariables false
set_option linter.unusedSimpArgs false

set_option maxHeartbeats 400000 in
theorem cloneInts_any (l : List Int) (v : Value) (w : World) (hr : RD w eInt v l) (hn : l.length ≤ 1000000) : Calls Try.prog 11 #[v] w (RetOW 3 eInt l w) := by
  obtain ⟨A, c, rfl, hc, hm, hA, h3⟩ := id hr
  have he := fun W => Lib.run_eql_slice_nil (P := Try.prog) W 22 3 A l.length c 0 0 Try.underlying22
  have HR := hide hr
  clear hr h3
  cases A with
  | none =>
    have hc0 : c = 0 := hA rfl
    have hl : l = [] := List.eq_nil_of_length_eq_zero (by omega)
    subst hl
    subst hc0
    clear hA
    simp only [List.length_nil] at he ⊢
    go_enter Try.func11, Try.ntmps11
    go_wp2
    go_ret
    exact ⟨_, rfl, OW.nil, Below.refl _ _⟩
  | some a =>
    have HM1 : Hid ((([] : List Int).length + l.length) * 8 ≤ 140737488355328) := hide (by simp; omega)
    have HM2 : Hid (([] : List Int).length + l.length ≤ maxLen) := hide (by simp [maxLen]; omega)
    have HE : Hid (OW (w.alloc (.cells #[] 3)) w.heap.size 3 eInt (.slice (some ⟨w.heap.size, 0, none⟩) 0 0) ([] : List Int)) := hide (OW.empty (Nat.le_refl _))
    have HHI : Hi w.heap.size (.slice (some ⟨w.heap.size, 0, none⟩) 0 0) := fun k hk => by simp [Value.ownBlock] at hk; omega
    clear hA
    go_enter Try.func11, Try.ntmps11
    go_wp2_with (at_builtin; (with_reducible refine list_app (B := w.heap.size) (l := ([] : List Int)) (m := l) row_int (.slice (some ⟨w.heap.size, 0, none⟩) 0 0) ?_ (.tmp 5) (.tmp 6) ?_ ?_ ?_ ?_ HM1.out HM2.out ?_ ?_); (with_reducible rfl); (with_reducible rfl); rfl; (exact HE.out); (show RD _ _ (.slice (some a) l.length c) _; exact HR.out.alloc _); (simp); intro v3 w3 ho3 hg3 hat3)
    go_ret
    exact ⟨_, rfl, ho3, (Kp.app hg3 (Kp.refl w).alloc HHI).bel⟩
end Go.Proofs.Ytpmhpogkpkhbfaa
