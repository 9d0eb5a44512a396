/-
  An argument that is a slice of slices of deeds, or a deed, opened. Conditions: none.
  Ten sums in an array; how often keys came and went; what Run answers of a sound way. Conditions: as each theorem says.
  slices.Clone at ints; the row of the ops. Conditions: the list reads as l (RD).
  slices.IndexFunc, ContainsFunc and Clone at what is told: what they answer. Conditions: the slice reads as it is named (RD); the closure answers as p.
  slices.Insert at pairs, one value: what it answers. Conditions: the slice is owned by the caller (OW); the value lies in a block of its own; at most 1000 elements.
  slices.Delete at what is told, one element: what it answers. Conditions: the slice is owned by the caller (OW); at most 1000 elements.
  hedgref.KeySet: ten truths. Conditions: the list reads as it is named (RD).
  Arrays of ten truths: held against each other, loaded; the search for an order, round by round. Conditions: as each theorem says.
  hedgref.Orders: the search for an order. Conditions: the slices read as they are named (RD, RDS); each deed that is told is one of the progs'; no more than 16 are told.
  hedgkeep.HandsOrder: it answers true. Conditions: the lists read as they are named (RD, RDS).
  hedgkeep.HandsOrder: THE STATEMENT: for every input it answers true. Conditions: none.
-/
import Derived.Test.YtoihdnekkgpcoaaG1
import Derived.Test.YtoihdnekkgpcoaaG6
import Derived.Test.YtoihdnekkgpcoaaG5
import Derived.Test.YtoihdnekkgpcoaaG16
import Derived.Test.YtoihdnekkgpcoaaG13
import Derived.Laws.NewBlocks
import Derived.Test.YtoihdnekkgpcoaaG14
import Derived.Laws.StructEq
import Derived.Test.YtoihdnekkgpcoaaG15
import Derived.Deep.DeepCutAuto
import Derived.Deep.CutBlock

namespace Go.Proofs.Ytoihdnekkgpcoaa
open Go.ChangeShapes Go.WideShapes Go.ChangeAt Go.RowKit Go.Deep
set_option linter.unusedVariables false
set_option linter.unusedSimpArgs false

theorem RD.dd {w : World} {v : Value} {l : List IP} (h : RD w ePair v l) : RD w eDeed v (l.map fun p => (⟨p.1, p.2⟩ : Dd)) := by
  obtain ⟨A, c, rfl, h1, h2, h3, h4⟩ := h
  refine ⟨A, c, by simp, by simpa using h1, h2, h3, fun h0 => ?_⟩
  simp only [List.length_map] at h0
  obtain ⟨b, o, rfl, hb, hc⟩ := h4 h0
  refine ⟨b, o, rfl, hb, fun k hk j hj => ?_⟩
  simp only [List.length_map] at hk
  have := hc k hk j hj
  simp only [List.getElem_map]
  exact this
section
variable {H : Type} {enc : TypeId × Value → H} {P : Program} {w : World} {base : Nat} {spare : Nat → Bool} {held : Bool}
theorem rd_deeds {t e d : TypeId} {f0 f1 : Field} {fuel : Nat} {cs : List Value} {x : DataW H × List MemPlace} (ht : P.underlying t = some (.slice e)) (hC1 : P.cellsOf e = 1) (he : P.underlying e = some (.slice d)) (hd : P.underlying d = some (.struct #[f0, f1]))
    (hone : oneCellFields P #[f0, f1] = true) (hC : P.cellsOf d = 2) (h0 : P.underlying f0.type = some (.int .i64)) (h1 : P.underlying f1.type = some (.int .i64)) (h : DataW.trod enc P w base spare held fuel t cs = some x) :
    ∃ v, cs = [v] ∧ ∃ ls : List (List Dd), RDS w eDeed v ls := by
  rcases open_slice1 ht hC1 h with ⟨rfl, _⟩ | ⟨a, len, cap, m, n, V, D, Pl, rfl, hb, hl, hm, hmm, _, hf⟩
  · exact ⟨_, rfl, [], none, 0, rfl, Nat.le_refl _, by decide, fun h => absurd h (Nat.lt_irrefl _)⟩
  · refine ⟨_, rfl, ?_⟩
    have hlm : len ≤ m := by rw [hmm]; split <;> omega
    have hq : ∀ i, ∃ l : List Dd, i < len → w.cell? (a.add i) = some (V i) ∧ RD w eDeed (V i) l := by
      intro i
      by_cases hi : i < len
      · obtain ⟨hc, ht2⟩ := hf i (by omega)
        obtain ⟨v, hv, l, hr⟩ := rd_pairs he hd hone hC h0 h1 ht2
        injection hv with hv _
        subst hv
        exact ⟨_, fun _ => ⟨hc, hr.dd⟩⟩
      · exact ⟨[], fun h => absurd h hi⟩
    obtain ⟨f, hf2⟩ := Classical.axiomOfChoice hq
    refine ⟨(List.range len).map f, some a, cap, by simp, by simpa using hl, hm, fun hpos => ?_⟩
    simp only [List.length_map, List.length_range] at hpos
    obtain ⟨c0, _⟩ := hf2 0 hpos
    have ha0 : a.add 0 = a := by simp [Addr.add]
    rw [ha0] at c0
    obtain ⟨b, o, sp⟩ := a
    have hsp : sp = none := World.cell?_spot c0
    subst hsp
    refine ⟨b, o, rfl, World.block_lt_of_cell? w _ c0, fun k hk => ?_⟩
    simp only [List.length_map, List.length_range] at hk
    obtain ⟨d0, d1⟩ := hf2 k hk
    have hadd : ∀ i, (⟨b, o, none⟩ : Addr).add i = ⟨b, o + i, none⟩ := fun i => by unfold Addr.add; split <;> simp_all
    rw [hadd] at d0
    refine ⟨_, d0, ?_⟩
    simp only [List.getElem_map, List.getElem_range]
    exact d1
theorem rd_two {r : Reach} {b0 : Nat} {t : TypeId} {f0 f1 : Field} {v : Value} {d : DataW H} {p : List MemPlace} (hs : P.underlying t = some (.struct #[f0, f1])) (hone : oneCellFields P #[f0, f1] = true) (hC : P.cellsOf t = 2)
    (h0 : P.underlying f0.type = some (.int .i64)) (h1 : P.underlying f1.type = some (.int .i64)) (hv : Value.okWide P w r b0 t v) (h : DataW.Trod enc P w base spare held t v d p) :
    ∃ a b : Int, v = .agg #[.int .i64 a, .int .i64 b] := by
  obtain ⟨v0, v1, y0, y1, n, rfl, _, _, t0, t1⟩ := Go.Joins.open_agg2 hs hone hC hv h
  obtain ⟨n0, e0, _⟩ := DataW.trod_int h0 t0
  obtain ⟨n1, e1, _⟩ := DataW.trod_int h1 t1
  injection e0 with e0
  injection e1 with e1
  subst e0 e1
  exact ⟨_, _, rfl⟩
end
section
variable {H : Type} {enc : TypeId × Value → H} {w : World} {base : Nat} {spare : Nat → Bool} {held : Bool} {a0 : Option Addr} {n c : Nat} {d : DataW H} {p : List MemPlace}
set_option maxRecDepth 100000 in
theorem arg_deeds (h : DataW.Trod enc Try.prog w base spare held 25 (.slice a0 n c) d p) : ∃ ls, RDS w eDeed (.slice a0 n c) ls := by
  obtain ⟨fuel, hf⟩ := h
  obtain ⟨v, hv, l, hl⟩ := rd_deeds Try.underlying25 (by kernel_rfl) Try.underlying24 Try.underlying23 (by kernel_rfl) (by kernel_rfl) Try.underlying3 Try.underlying3 hf
  simp [Value.cells] at hv
  subst hv
  exact ⟨l, hl⟩
set_option maxRecDepth 100000 in
theorem arg_deed {r : Reach} {b0 : Nat} {v : Value} (hv : Value.okWide Try.prog w r b0 23 v) (h : DataW.Trod enc Try.prog w base spare held 23 v d p) : ∃ x y : Int, v = .agg #[.int .i64 x, .int .i64 y] :=
  rd_two Try.underlying23 (by kernel_rfl) (by kernel_rfl) Try.underlying3 Try.underlying3 hv h
end
end Go.Proofs.Ytoihdnekkgpcoaa
namespace Go.Proofs.Ytoihdnekkgpcoaa
open Go.ChangeShapes Go.WideShapes Go.ChangeAt Go.RowKit
set_option linter.unusedVariables false
set_option linter.unusedSimpArgs false

def smC (f : Int → Int) : List Value := [.int .i64 (f 0), .int .i64 (f 1), .int .i64 (f 2), .int .i64 (f 3), .int .i64 (f 4), .int .i64 (f 5), .int .i64 (f 6), .int .i64 (f 7), .int .i64 (f 8), .int .i64 (f 9)]
theorem smC_eq (f : Int → Int) : smC f = (List.range 10).map (fun i : Nat => Value.int .i64 (f (i : Int))) := rfl
theorem smC_get (f : Int → Int) {k : Nat} (h : k ≤ 9) : (smC f)[k]? = some (.int .i64 (f k)) := by
  rw [smC_eq]; simp [show k < 10 by omega]
theorem smC_set (f g : Int → Int) (k : Nat) (hk : k ≤ 9) (v : Int) (h1 : g k = v) (h2 : ∀ x : Int, x ≠ k → g x = f x) : (smC f).set k (.int .i64 v) = smC g := by
  rw [smC_eq, smC_eq]
  apply List.ext_getElem?
  intro j
  simp only [List.getElem?_set, List.getElem?_map, List.length_map, List.length_range]
  by_cases e : k = j
  · subst e; simp [show k < 10 by omega, h1]
  · by_cases hj : j < 10
    · simp [e, hj, h2 (j : Int) (by omega)]
    · simp [e, hj]
theorem smC_zero (f : Int → Int) (h : ∀ x, 0 ≤ x → x ≤ 9 → f x = 0) : smC f = [.int .i64 0, .int .i64 0, .int .i64 0, .int .i64 0, .int .i64 0, .int .i64 0, .int .i64 0, .int .i64 0, .int .i64 0, .int .i64 0] := by
  unfold smC
  rw [h 0 (by decide) (by decide), h 1 (by decide) (by decide), h 2 (by decide) (by decide), h 3 (by decide) (by decide), h 4 (by decide) (by decide), h 5 (by decide) (by decide), h 6 (by decide) (by decide), h 7 (by decide) (by decide), h 8 (by decide) (by decide), h 9 (by decide) (by decide)]
/-- How often is it there? -/
def cnI (l : List Int) (x : Int) : Int := (l.map (fun y => if y = x then (1 : Int) else 0)).sum
theorem sum_bd : ∀ l : List Int, (∀ x ∈ l, -1 ≤ x ∧ x ≤ 1) → -(l.length : Int) ≤ l.sum ∧ l.sum ≤ l.length
  | [], _ => by simp
  | a :: t, h => by
    have h1 := h a (by simp)
    have h2 := sum_bd t fun x hx => h x (by simp [hx])
    simp only [List.sum_cons, List.length_cons]
    omega
theorem cnI_bd (l : List Int) (x : Int) : 0 ≤ cnI l x ∧ cnI l x ≤ l.length := by
  unfold cnI
  induction l with
  | nil => simp
  | cons a t ih =>
    simp only [List.map_cons, List.sum_cons, List.length_cons]
    split <;> omega
theorem cnI_take {l : List Int} {j : Nat} (h : j < l.length) (x : Int) : cnI (l.take (j + 1)) x = cnI (l.take j) x + (if l[j] = x then 1 else 0) := by
  unfold cnI
  rw [List.take_succ_eq_append_getElem h, List.map_append, List.sum_append]
  simp
def chI (P : List (List Dd)) (D : List (Nat × Nat × Dn)) (x : Int) : Int := (D.map (chg (dd P) x)).sum
theorem chI_bd (P : List (List Dd)) (D : List (Nat × Nat × Dn)) (x : Int) : -(D.length : Int) ≤ chI P D x ∧ chI P D x ≤ D.length := by
  have := sum_bd (D.map (chg (dd P) x)) (by
    intro y hy
    rw [List.mem_map] at hy
    obtain ⟨z, _, rfl⟩ := hy
    unfold chg
    split
    · split
      · omega
      · split <;> omega
    · omega)
  simpa [chI] using this
theorem chI_take {P : List (List Dd)} {D : List (Nat × Nat × Dn)} {j : Nat} (h : j < D.length) (x : Int) : chI P (D.take (j + 1)) x = chI P (D.take j) x + chg (dd P) x D[j] := by
  unfold chI
  rw [List.take_succ_eq_append_getElem h, List.map_append, List.sum_append]
  simp
theorem doneL_len {s : St} (h : ∀ i, (s.told i).length ≤ 4) : ∀ n, (doneL s n).length ≤ 4 * n := by
  intro n
  unfold doneL
  induction n with
  | zero => simp
  | succ n ih =>
    rw [List.range_succ, List.flatMap_append, List.length_append]
    have := h n
    simp only [List.flatMap_cons, List.flatMap_nil, List.append_nil, List.length_mapIdx]
    omega
theorem OkIn.len10s {l : List Int} {P : List (List Dd)} (ok : OkIn l P) : l.length ≤ 10 := by
  have h1 := (mm0_MW l ok.keys ok.sort)
  have hk : ∀ i (h : i < l.length), (mm0 l).ky (i + 1) = l[i] := fun i h => by simp [mm0, h]
  have key : ∀ i, i < l.length → (i : Int) ≤ (mm0 l).ky (i + 1) := by
    intro i
    induction i with
    | zero => intro hi; have := ok.keys _ (List.getElem_mem hi); rw [hk 0 hi]; omega
    | succ i ih =>
      intro hi
      have h2 := ih (by omega)
      have h4 : (mm0 l).nx (i + 1) = i + 1 + 1 := by simp [mm0]; omega
      have h3 := h1.ri (i + 1) (by show i + 1 < l.length + 2; omega) (by rw [hk i (by omega)]; have := (ok.keys _ (List.getElem_mem (show i < l.length by omega))).2; omega)
      rw [h4] at h3
      omega
  by_cases h0 : l.length = 0
  · omega
  · have h2 := key (l.length - 1) (by omega)
    rw [hk _ (by omega)] at h2
    have := (ok.keys _ (List.getElem_mem (show l.length - 1 < l.length by omega))).2
    omega
/-- What Run answers of a sound way. -/
def RunSd (l : List Int) (P : List (List Dd)) (w : World) (e : Ending) (w' : World) : Prop :=
  ∃ (s : St) (D : List (Nat × Nat × Dn)) (lf : List Int) (vd vl : Value), e = .returned (.tuple #[.agg #[vd, vl], .int .i64 0]) ∧ RD w' eDone vd D ∧ RD w' eInt vl lf ∧ Kp w w' ∧ Sound l P s ∧ D = doneL s P.length ∧ lf = leftM s.m ∧ D.length ≤ 16
theorem run_sd {l : List Int} {P : List (List Dd)} {o : List Int} {algo : Int} {vl vp vo : Value} {w : World} (hl : RD w eInt vl l) (hp : RDS w eDeed vp P) (ho : RD w eInt vo o) (hr : rgF algo l P o.length = 0) (h4 : algo ≠ 4) : Calls Try.prog 9 #[.int .i64 algo, vl, vp, vo] w (RunSd l P w) := by
  obtain ⟨h14, h5, ok⟩ := rgF_ok hr
  obtain ⟨alg, rfl⟩ : ∃ alg : Nat, algo = (alg : Int) := ⟨algo.toNat, by omega⟩
  refine (hrun_any alg l P o vl vp vo w hl hp ho hr).mono ?_
  rintro e w' ⟨s, vd, vl, rfl, hf, h1, h2, hk⟩
  obtain ⟨hs, _⟩ := all_sound ok alg (by omega) o h5 s hf
  refine ⟨s, _, _, vd, vl, rfl, h1, h2, hk, hs, rfl, rfl, ?_⟩
  have hlen : ∀ i, (s.told i).length ≤ 4 := fun i => by rw [hs.2.2.1 i]; exact ok.ndl i
  have := doneL_len hlen P.length
  have := ok.len
  omega
theorem Sound.at_ {l : List Int} {P : List (List Dd)} {s : St} (h : Sound l P s) {x : Nat × Nat × Dn} (hx : x ∈ doneL s P.length) : ∃ (h1 : x.1 < P.length) (h2 : x.2.1 < (P[x.1]'h1).length), dd P x.1 x.2.1 = (P[x.1]'h1)[x.2.1]'h2 := by
  rw [mem_doneL] at hx
  obtain ⟨h1, hx2⟩ := hx
  obtain ⟨h3, _⟩ := List.getElem?_eq_some_iff.1 hx2
  rw [h.2.2.1] at h3
  have e : ndl P x.1 = (P[x.1]'h1).length := by unfold ndl; simp [h1]
  refine ⟨h1, by omega, ?_⟩
  unfold dd
  simp [h1, show x.2.1 < (P[x.1]'h1).length by omega]
end Go.Proofs.Ytoihdnekkgpcoaa
namespace Go.Proofs.Ytoihdnekkgpcoaa
open Go.ChangeShapes Go.WideShapes Go.ChangeAt Go.RowKit
set_option linter.unusedVariables false
set_option linter.unusedSimpArgs false

set_option maxHeartbeats 400000 in
theorem cloneInts_any (l : List Int) (v : Value) (w : World) (hr : RD w eInt v l) (hn : l.length ≤ 1000000) : Calls Try.prog 23 #[v] w (RetOW 3 eInt l w) := by
  obtain ⟨A, c, rfl, hc, hm, hA, h3⟩ := id hr
  have he := fun W => Lib.run_eql_slice_nil (P := Try.prog) W 27 3 A l.length c 0 0 Try.underlying27
  have HR := hide hr
  clear hr h3
  cases A with
  | none =>
    have hc0 : c = 0 := hA rfl
    have hl : l = [] := List.eq_nil_of_length_eq_zero (by omega)
    subst hl
    subst hc0
    clear hA
    simp only [List.length_nil] at he ⊢
    go_enter Try.func23, Try.ntmps23
    go_wp2
    go_ret
    exact ⟨_, rfl, OW.nil, Below.refl _ _⟩
  | some a =>
    have HM1 : Hid ((([] : List Int).length + l.length) * 8 ≤ 140737488355328) := hide (by simp; omega)
    have HM2 : Hid (([] : List Int).length + l.length ≤ maxLen) := hide (by simp [maxLen]; omega)
    have HE : Hid (OW (w.alloc (.cells #[] 3)) w.heap.size 3 eInt (.slice (some ⟨w.heap.size, 0, none⟩) 0 0) ([] : List Int)) := hide (OW.empty (Nat.le_refl _))
    have HHI : Hi w.heap.size (.slice (some ⟨w.heap.size, 0, none⟩) 0 0) := fun k hk => by simp [Value.ownBlock] at hk; omega
    clear hA
    go_enter Try.func23, Try.ntmps23
    go_wp2_with (at_builtin; (with_reducible refine list_app (B := w.heap.size) (l := ([] : List Int)) (m := l) row_int (.slice (some ⟨w.heap.size, 0, none⟩) 0 0) ?_ (.tmp 5) (.tmp 6) ?_ ?_ ?_ ?_ HM1.out HM2.out ?_ ?_); (with_reducible rfl); (with_reducible rfl); rfl; (exact HE.out); (show RD _ _ (.slice (some a) l.length c) _; exact HR.out.alloc _); (simp); intro v3 w3 ho3 hg3 hat3)
    go_ret
    exact ⟨_, rfl, ho3, (Kp.app hg3 (Kp.refl w).alloc HHI).bel⟩
end Go.Proofs.Ytoihdnekkgpcoaa
namespace Go.Proofs.Ytoihdnekkgpcoaa
open Go.ChangeShapes Go.WideShapes Go.ChangeAt Go.RowKit
set_option linter.unusedVariables false
set_option linter.unusedSimpArgs false

abbrev Tl := Nat × Nat × Dn
def tlV (x : Tl) : Value := .agg #[.int .i64 x.1, .int .i64 x.2.1, .int .i64 x.2.2.bgn, .int .i64 x.2.2.fin, .bool x.2.2.is]
def IxD (D : List Tl) (p : Tl → Bool) (w : World) (iv : Value) (wr : World) : Prop := ∃ k : Nat, k ≤ D.length ∧ iv = .int .i64 k ∧ (∀ j (h : j < D.length), j < k → p D[j] = false) ∧ Kp w wr
def IxPost (D : List Tl) (p : Tl → Bool) (w : World) (e : Ending) (w' : World) : Prop := ∃ r : Int, e = .returned (.int .i64 r) ∧ Kp w w' ∧ ((∃ (k : Nat) (h : k < D.length), r = k ∧ p D[k] = true ∧ ∀ j (h : j < D.length), j < k → p D[j] = false) ∨ (r = -1 ∧ ∀ x ∈ D, p x = false))
set_option maxRecDepth 100000 in
set_option maxHeartbeats 2000000 in
theorem indexDone_any (D : List Tl) (v : Value) (F : Nat) (cap : Value) (p : Tl → Bool) (w : World) (hr : RD w eDone v D) (hE : Ent F) (hF : ∀ x ∈ D, ∀ W, Kp w W → Calls Try.prog F #[tlV x, cap] W (fun e w' => e = .returned (.bool (p x)) ∧ Kp W w')) :
    Calls Try.prog 32 #[v, .func (.func F) #[] #[cap]] w (IxPost D p w) := by
  obtain ⟨A, c, rfl, hcl, hm⟩ := hr.shape
  have HR := hide hr
  have HE := hide hE
  have HF := hide hF
  clear hr hE hF
  go_enter Try.func32, Try.ntmps32
  go_wp2
  go_loopw [8] (fun iv wx => IxD D p w iv wx) (fun i _ => D.length - (intOf i).toNat)
  case atStart => exact ⟨0, by omega, rfl, fun j h a => by omega, Kp.refl _⟩
  case round =>
    obtain ⟨k, hk, rfl, hall, hkp⟩ := hrel
    have HALL := hide hall
    clear hall
    by_cases hlt : k < D.length
    · obtain ⟨b, o, e, _, x0, x1, x2, x3, x4⟩ := (HR.out.kp hkp).done hlt
      cases e
      have hc := HF.out _ (List.getElem_mem hlt) wr hkp
      obtain ⟨x, hx⟩ : ∃ x, x = D[k]'hlt := ⟨_, rfl⟩
      rw [← hx] at x0 x1 x2 x3 x4 hc
      have HC := hide hc
      have HX := hide hx
      have HKP := hide hkp
      have hlti : (k : Int) < (D.length : Int) := by omega
      have HLT := hide hlt
      obtain ⟨xa, xe, xb, xf, xi⟩ := x
      unfold tlV at HC
      simp only at x0 x1 x2 x3 x4 HC
      clear hc hx hkp
      cases hp : p (xa, xe, ⟨xb, xf, xi⟩) with
      | true =>
        rw [hp] at HC
        have HPX := hide hp
        clear hp
        go_wp2_with fail
        rw [HE.out]
        refine HC.out.mono ?_
        rintro e w1 ⟨rfl, hk1⟩
        have HK1 := hide (HKP.out.trans hk1)
        clear hk1
        go_wp2
        go_ret
        exact ⟨k, rfl, HK1.out, .inl ⟨k, HLT.out, rfl, by rw [← HX.out]; exact HPX.out, HALL.out⟩⟩
      | false =>
        rw [hp] at HC
        have HPX := hide hp
        clear hp
        go_wp2_with fail
        rw [HE.out]
        refine HC.out.mono ?_
        rintro e w1 ⟨rfl, hk1⟩
        have HK1 := hide (HKP.out.trans hk1)
        clear hk1
        go_wp2
        go_roundw
        case rel =>
          exact ⟨k + 1, by have := HLT.out; omega, by go_num, fun j h a => by
            by_cases e : j = k
            · subst e; rw [← HX.out]; exact HPX.out
            · exact HALL.out j h (by omega), HK1.out⟩
        case measure => simp [intOf]; have := HLT.out; omega
    · have HKP := hide hkp
      have HN : Hid (∀ x ∈ D, p x = false) := hide (fun x hx => by
        obtain ⟨j, hj, rfl⟩ := List.mem_iff_getElem.1 hx
        exact HALL.out j hj (by omega))
      have hlti : ¬ (k : Int) < (D.length : Int) := by omega
      clear hkp hlt
      go_wp2
      go_ret
      exact ⟨-1, rfl, HKP.out, .inr ⟨rfl, HN.out⟩⟩
set_option maxRecDepth 100000 in
set_option maxHeartbeats 2000000 in
theorem containsDone_any (D : List Tl) (v : Value) (F : Nat) (cap : Value) (p : Tl → Bool) (w : World) (hr : RD w eDone v D) (hE : Ent F) (hF : ∀ x ∈ D, ∀ W, Kp w W → Calls Try.prog F #[tlV x, cap] W (fun e w' => e = .returned (.bool (p x)) ∧ Kp W w')) :
    Calls Try.prog 25 #[v, .func (.func F) #[] #[cap]] w (fun e w' => e = .returned (.bool (D.any p)) ∧ Kp w w') := by
  have HI := hide (indexDone_any D v F cap p w hr hE hF)
  obtain ⟨A, c, rfl, hcl, hm⟩ := hr.shape
  clear hr hE hF
  go_enter Try.func25, Try.ntmps25
  go_wp2_with fail
  refine HI.out.mono ?_
  rintro e w1 ⟨r, rfl, hk, hh⟩
  rcases hh with ⟨k, h, rfl, h1, _⟩ | ⟨rfl, h1⟩
  · have HA : Hid (D.any p = true) := hide (List.any_eq_true.2 ⟨_, List.getElem_mem h, h1⟩)
    have d1 : decide ((0 : Int) ≤ (k : Int)) = true := decide_eq_true (by omega)
    clear h1 h
    go_wp2
    go_ret
    exact ⟨by rw [HA.out]; rfl, hk⟩
  · have HA : Hid (D.any p = false) := hide (List.any_eq_false.2 fun x hx => by rw [h1 x hx]; decide)
    clear h1
    go_wp2
    go_ret
    exact ⟨by rw [HA.out]; rfl, hk⟩
set_option maxHeartbeats 400000 in
theorem cloneDone_any (l : List (Nat × Nat × Dn)) (v : Value) (w : World) (hr : RD w eDone v l) (hn : l.length ≤ 1000000) : Calls Try.prog 28 #[v] w (RetOW 35 eDone l w) := by
  obtain ⟨A, c, rfl, hc, hm, hA, h3⟩ := id hr
  have he := fun W => Lib.run_eql_slice_nil (P := Try.prog) W 26 35 A l.length c 0 0 Try.underlying26
  have HR := hide hr
  clear hr h3
  cases A with
  | none =>
    have hc0 : c = 0 := hA rfl
    have hl : l = [] := List.eq_nil_of_length_eq_zero (by omega)
    subst hl
    subst hc0
    clear hA
    simp only [List.length_nil] at he ⊢
    go_enter Try.func28, Try.ntmps28
    go_wp2
    go_ret
    exact ⟨_, rfl, OW.nil, Below.refl _ _⟩
  | some a =>
    have HM1 : Hid ((([] : List (Nat × Nat × Dn)).length + l.length) * 40 ≤ 140737488355328) := hide (by simp; omega)
    have HM2 : Hid (([] : List (Nat × Nat × Dn)).length + l.length ≤ maxLen) := hide (by simp [maxLen]; omega)
    have HE : Hid (OW (w.alloc (.cells #[] 35)) w.heap.size 35 eDone (.slice (some ⟨w.heap.size, 0, none⟩) 0 0) ([] : List (Nat × Nat × Dn))) := hide (OW.empty (Nat.le_refl _))
    have HHI : Hi w.heap.size (.slice (some ⟨w.heap.size, 0, none⟩) 0 0) := fun k hk => by simp [Value.ownBlock] at hk; omega
    clear hA
    go_enter Try.func28, Try.ntmps28
    go_wp2_with (at_builtin; (with_reducible refine list_app (B := w.heap.size) (l := ([] : List (Nat × Nat × Dn))) (m := l) row_done (.slice (some ⟨w.heap.size, 0, none⟩) 0 0) ?_ (.tmp 5) (.tmp 6) ?_ ?_ ?_ ?_ HM1.out HM2.out ?_ ?_); (with_reducible rfl); (with_reducible rfl); rfl; (exact HE.out); (show RD _ _ (.slice (some a) l.length c) _; exact HR.out.alloc _); (simp); intro v3 w3 ho3 hg3 hat3)
    go_ret
    exact ⟨_, rfl, ho3, (Kp.app hg3 (Kp.refl w).alloc HHI).bel⟩
end Go.Proofs.Ytoihdnekkgpcoaa
namespace Go.Proofs.Ytoihdnekkgpcoaa
open Go.ChangeShapes Go.WideShapes Go.ChangeAt Go.RowKit
set_option linter.unusedVariables false
set_option linter.unusedSimpArgs false

/-- What a call leaves that answers a slice made of one that its caller owned. -/
def OPost (B : Nat) (t : TypeId) (l : List IP) (v : Value) (w : World) (e : Ending) (w' : World) : Prop :=
  ∃ v', e = .returned v' ∧ OW w' B t ePair v' l ∧ w.grownBy w' v.ownBlock ∧ (v'.ownBlock = v.ownBlock ∨ ∃ k, v'.ownBlock = some k ∧ w.heap.size ≤ k)
theorem OPost.kp {w0 w w' : World} {v : Value} (hg : w.grownBy w' v.ownBlock) (h : Kp w0 w) (hv : Hi w0.heap.size v) : Kp w0 w' := Kp.app hg h hv
theorem flat_take {α : Type} (E : Enc α) (l : List α) (k : Nat) (h : k ≤ l.length) : (l.flatMap E.cells).take (k * E.size) = (l.take k).flatMap E.cells := by
  have e : l.flatMap E.cells = (l.take k).flatMap E.cells ++ (l.drop k).flatMap E.cells := by rw [← List.flatMap_append, List.take_append_drop]
  rw [e, List.take_left']
  rw [flat_len]; simp [h]
theorem flat_drop {α : Type} (E : Enc α) (l : List α) (k : Nat) (h : k ≤ l.length) : (l.flatMap E.cells).drop (k * E.size) = (l.drop k).flatMap E.cells := by
  have e : l.flatMap E.cells = (l.take k).flatMap E.cells ++ (l.drop k).flatMap E.cells := by rw [← List.flatMap_append, List.take_append_drop]
  rw [e, List.drop_left']
  rw [flat_len]; simp [h]
/-- Cells of a part of a list. -/
theorem cells_drop {w : World} {g : Nat} {t : TypeId} {cur : List Value} {α : Type} {E : Enc α} {l : List α} (hg : BK w g t cur) (ht : cur.take (l.length * E.size) = l.flatMap E.cells) (k : Nat) (hk : k ≤ l.length) :
    ∀ j v, ((l.drop k).flatMap E.cells)[j]? = some v → w.cell? ⟨g, k * E.size + j, none⟩ = some v := fun j v hj => by
  rw [hg.cell, ← hj, ← flat_drop E l k hk, ← ht, List.getElem?_drop, List.getElem?_take, if_pos]
  have h1 := (List.getElem?_eq_some_iff.1 hj).1
  rw [flat_len, List.length_drop] at h1
  have h2 : (l.length - k) * E.size = l.length * E.size - k * E.size := Nat.sub_mul _ _ _
  have h3 : k * E.size ≤ l.length * E.size := Nat.mul_le_mul_right _ hk
  omega

end Go.Proofs.Ytoihdnekkgpcoaa
namespace Go.Proofs.Ytoihdnekkgpcoaa
open Go.ChangeShapes Go.WideShapes Go.ChangeAt Go.RowKit
set_option linter.unusedVariables false
set_option linter.unusedSimpArgs false

/-- What a call leaves that answers a slice made of one that its caller owned. -/
def OPostD (B : Nat) (t : TypeId) (l : List (Nat × Nat × Dn)) (v : Value) (w : World) (e : Ending) (w' : World) : Prop :=
  ∃ v', e = .returned v' ∧ OW w' B t eDone v' l ∧ w.grownBy w' v.ownBlock ∧ (v'.ownBlock = v.ownBlock ∨ ∃ k, v'.ownBlock = some k ∧ w.heap.size ≤ k)
theorem delete_takeD (cur cs : List Value) (l : List (Nat × Nat × Dn)) (i c : Nat) (hi : i < l.length) (hc : l.length ≤ c) (hl : cur.length = c * 5) (ht : cur.take (l.length * 5) = l.flatMap eDone.cells) (hcs : cs.length = 5) :
    (splice (splice cur (i * 5) ((l.drop (i + 1)).flatMap eDone.cells)) ((l.length - 1) * 5) cs).take ((l.take i ++ l.drop (i + 1)).length * 5) = (l.take i ++ l.drop (i + 1)).flatMap eDone.cells := by
  have hdl : ((l.drop (i + 1)).flatMap eDone.cells).length = (l.length - (i + 1)) * 5 := by rw [flat_len, List.length_drop]; rfl
  have hll : (l.take i ++ l.drop (i + 1)).length = l.length - 1 := by simp; omega
  have hs1 := splice_len cur (i * 5) ((l.drop (i + 1)).flatMap eDone.cells) (by omega)
  have hft : (l.take i).flatMap eDone.cells = cur.take (i * 5) := by
    have h1 := flat_take eDone l i (by omega)
    have h2 : eDone.size = 5 := rfl
    rw [h2] at h1
    rw [← h1, ← ht, List.take_take, Nat.min_eq_left (by omega)]
  rw [hll]
  apply List.ext_getElem?
  intro j
  rw [List.getElem?_take]
  by_cases hj : j < (l.length - 1) * 5
  · rw [if_pos hj, splice_at _ _ _ (by omega), if_pos hj, splice_at _ _ _ (by omega), List.flatMap_append, hft]
    have htl : (cur.take (i * 5)).length = i * 5 := by simp; omega
    by_cases h1 : j < i * 5
    · rw [if_pos h1, List.getElem?_append_left (by omega), List.getElem?_take, if_pos h1]
    · rw [if_neg h1, if_pos (by omega), List.getElem?_append_right (by omega), htl]
  · rw [if_neg hj, List.getElem?_eq_none]
    rw [flat_len, hll]
    exact Nat.le_of_not_lt hj

set_option maxRecDepth 100000 in
set_option maxHeartbeats 4000000 in
theorem deleteDone_any (l : List (Nat × Nat × Dn)) (i : Nat) (v : Value) (B : Nat) (w : World) (ho : OW w B 35 eDone v l) (hi : i < l.length) (hn : l.length ≤ 1000) :
    Calls Try.prog 27 #[v, .int .i64 (i : Int), .int .i64 ((i : Int) + 1)] w (OPostD B 35 (l.take i ++ l.drop (i + 1)) v w) := by
  obtain ⟨g, c, rfl, hBg, hgw, hc, hc63⟩ := ho.shape (by omega)
  obtain ⟨cur, hbk, _, _, hcm, hcl, htk, _⟩ := BK.of_ow ho
  have hes : eDone.size = 5 := rfl
  rw [hes] at hcl htk
  obtain ⟨i0, z0, hu, hinfo, hzero, hsize, hbytes, hzs, _⟩ := row_done
  rw [hes] at hsize hzs
  have hz0 : z0.cells.toList = eDone.cells (0, 0, ⟨0, 0, false⟩) := zero_of info_done rfl i0 z0 hinfo hzero
  have h1d : ∀ v ∈ (l.drop (i + 1)).flatMap eDone.cells, v.oneCell' = true := flat_one eDone _
  have hdl : ((l.drop (i + 1)).flatMap eDone.cells).length = (l.length - (i + 1)) * 5 := by rw [flat_len, List.length_drop]; rfl
  have hfit1 : i * i0.size + ((l.drop (i + 1)).flatMap eDone.cells).length ≤ cur.length := by rw [hsize, hdl]; omega
  obtain ⟨A2, hif⟩ : ∃ A2 : Addr, (if c = i + 1 then some (⟨g, 0, none⟩ : Addr) else some ⟨g, (i + 1) * 5, none⟩) = some A2 := by
    by_cases h : c = i + 1
    · exact ⟨_, by rw [if_pos h]⟩
    · exact ⟨_, by rw [if_neg h]⟩
  have hsrc : ∀ j v, ((l.drop (i + 1)).flatMap eDone.cells)[j]? = some v → w.cell? (A2.add j) = some v := fun j v hj => by
    by_cases h : c = i + 1
    · have : (l.drop (i + 1)) = [] := List.drop_of_length_le (by omega)
      rw [this] at hj; simp at hj
    · rw [if_neg h] at hif
      injection hif with hif
      subst hif
      rw [add_lit]
      exact cells_drop (E := eDone) hbk htk (i + 1) (by omega) j v hj
  have hap : ∀ ty, (Builtin.append_ #[26, 26] ty #[.slice (some ⟨g, 0, none⟩) i c, .slice (some A2) (l.length - (i + 1)) (c - (i + 1))]).run Try.prog w.drew = .ok (.slice (some ⟨g, 0, none⟩) (l.length - 1) c) (w.drew.setRow g (splice cur (i * 5) ((l.drop (i + 1)).flatMap eDone.cells)).toArray) := fun ty => by
    have h := run_appendK (P := Try.prog) (w := w.drew) (ty := ty) hinfo hu hu i c A2 (l.length - (i + 1)) (c - (i + 1)) (t := 35) hbk (by rw [hdl, hsize]) (by omega) hsrc hfit1 h1d
    rw [hsize, show i + (l.length - (i + 1)) = l.length - 1 from by omega] at h
    exact h
  obtain ⟨cur1, hcur1⟩ : ∃ cur1, cur1 = splice cur (i * 5) ((l.drop (i + 1)).flatMap eDone.cells) := ⟨_, rfl⟩
  have hcl1 : cur1.length = c * 5 := by rw [hcur1, splice_len _ _ _ (by rw [hdl]; omega)]; exact hcl
  have hzl : (Builtin.zeroCells z0.cells 1).toList.length = 5 := by rw [Array.length_toList, size_zeroCells, hzs]
  have hz1c : ∀ v ∈ (Builtin.zeroCells z0.cells 1).toList, v.oneCell' = true := by
    have e : (Builtin.zeroCells z0.cells 1).toList = eDone.cells (0, 0, ⟨0, 0, false⟩) := by
      have h2 : z0.cells = #[.int .i64 0, .int .i64 0, .int .i64 0, .int .i64 0, .bool false] := by
        have h3 : z0.cells.toList = [.int .i64 0, .int .i64 0, .int .i64 0, .int .i64 0, .bool false] := hz0
        rw [← Array.toArray_toList (xs := z0.cells), h3]
      rw [h2]; simp [Builtin.zeroCells, eDone, Array.range, Array.ofFn_succ]
    rw [e]; exact eDone.one _
  have HFIN := hide (delete_takeD cur (Builtin.zeroCells z0.cells 1).toList l i c hi hc hcl htk hzl)
  rw [← hcur1] at hap HFIN
  have hcp : ∀ W, BK W g 35 cur1 → ∀ ty cc, (Builtin.clear_ #[26] ty #[.slice (some ⟨g, (l.length - 1) * 5, none⟩) 1 cc]).run Try.prog W = .ok (.tuple #[]) (W.setRow g (splice cur1 ((l.length - 1) * 5) (Builtin.zeroCells z0.cells 1).toList).toArray) := fun W hb ty cc =>
    run_clearK hinfo hzero hu ((l.length - 1) * 5) 1 cc (by omega) hb (by rw [hzs, hsize]) (by rw [hcl1, hsize]; omega) hz1c
  have hll : (l.take i ++ l.drop (i + 1)).length = l.length - 1 := by simp; omega
  have HLL := hide hll
  have HAP := hide hap
  have HCP := hide hcp
  have HBK := hide hbk
  have HBg := hide hBg
  have HCM := hide hcm
  have HCL1 := hide hcl1
  have HZL := hide hzl
  have HLC : Hid (l.length ≤ c) := hide hc
  obtain ⟨k, hk⟩ : ∃ k, l.length = k + 1 := ⟨l.length - 1, by omega⟩
  have HK := hide hk
  rw [hk, Nat.add_sub_cancel, Nat.add_sub_add_right] at HAP
  rw [hk, Nat.add_sub_cancel] at HCP HLL
  rw [hk] at hi hc hn ⊢
  have hwi : IntKind.i64.wrap ((i : Int) + 1) = (i : Int) + 1 := IntWalk.i64_in _ (by omega)
  have tni : ((i : Int) + 1).toNat = i + 1 := by omega
  have hnei' : ((i : Int) == (i : Int) + 1) = false := by simp; omega
  have bi0 : (0 : Int) ≤ (i : Int) + 1 := by omega
  have bi1 : (i : Int) ≤ (i : Int) + 1 := by omega
  have bi2 : (i : Int) + 1 ≤ (k : Int) + 1 := by omega
  have bi3 : (i : Int) + 1 ≤ (c : Int) := by omega
  have bi4 : (i : Int) ≤ (c : Int) := by omega
  have bck : ¬ (c = k) := by omega
  have bkc : (k : Int) + 1 ≤ (c : Int) := by omega
  have bi5 : (i : Int) ≤ (k : Int) + 1 := by omega
  clear hap hcp hcur1 hcl1 hbk htk hcl hinfo hzero hsize hbytes hzs h1d hdl hfit1 hsrc hz0 hzl hz1c ho hgw hcm hk hll
  go_enter Try.func27, Try.ntmps27
  go_wp2_with fail
  go_region_law (refine step_appK rfl (.tmp 22) (.tmp 25) rfl (.slice (some ⟨g, 0, none⟩) i c) (.slice (some A2) (k - i) (c - (i + 1))) (.slice (some ⟨g, 0, none⟩) k c) (by simp [Act.eval, Act.put]) (by simp [Act.eval, Act.put]) (w := w.drew) HBK.out (fun ty => HAP.out ty) ?_; intro w2 hb2 hk2)
  have hk2' : Kg g w w2 := (Kg.of (Kp.refl w).drew).trans hk2
  go_wp2_with ((with_reducible refine list_clear ?_ (.tmp 31) ?_ (.slice (some ⟨g, k * 5, none⟩) 1 (c - k)) ?_ hb2.out (fun ty => HCP.out _ hb2.out ty (c - k)) ?_); (with_reducible rfl); (with_reducible rfl); rfl; intro w3 hb3 hk3)
  go_ret
  refine ⟨_, rfl, ?_, (show w.grownBy w3 (some g) from hk2'.trans hk3), .inl rfl⟩
  rw [← HLL.out]
  have h9 := HCL1.out
  have h8 := HZL.out
  have h7 := HK.out
  exact BK.ow (E := eDone) hb3.out HBg.out (by rw [HLL.out]; omega) HCM.out (by
    rw [splice_len _ _ _ (by rw [h9, h8]; omega), h9]; rfl) (by rw [← show l.length - 1 = k from by omega]; exact HFIN.out)
end Go.Proofs.Ytoihdnekkgpcoaa
namespace Go.Proofs.Ytoihdnekkgpcoaa
open Go.ChangeShapes Go.WideShapes Go.ChangeAt Go.RowKit
set_option linter.unusedVariables false
set_option linter.unusedSimpArgs false

/-- Of each key from 0 to 9: is it there? -/
def ksC (f : Int → Bool) : List Value := [.bool (f 0), .bool (f 1), .bool (f 2), .bool (f 3), .bool (f 4), .bool (f 5), .bool (f 6), .bool (f 7), .bool (f 8), .bool (f 9)]
def inF (l : List Int) : Int → Bool := fun x => decide (x ∈ l)
theorem ksC_eq (f : Int → Bool) : ksC f = (List.range 10).map (fun i : Nat => Value.bool (f (i : Int))) := rfl
theorem ksC_set (f g : Int → Bool) (k : Nat) (hk : k ≤ 9) (h1 : g k = true) (h2 : ∀ x : Int, x ≠ k → g x = f x) : (ksC f).set k (.bool true) = ksC g := by
  rw [ksC_eq, ksC_eq]
  apply List.ext_getElem?
  intro j
  simp only [List.getElem?_set, List.getElem?_map, List.length_map, List.length_range]
  by_cases e : k = j
  · subst e; simp [show k < 10 by omega, h1]
  · by_cases hj : j < 10
    · simp [e, hj, h2 (j : Int) (by omega)]
    · simp [e, hj]
theorem info_ten : (Try.prog.info? 38).map (·.size) = some 10 := by kernel_rfl
def KsRel (l : List Int) (w : World) (O R : Nat) (iv : Value) (wr : World) : Prop :=
  ∃ j : Nat, j ≤ l.length ∧ iv = .int .i64 j ∧ BC wr O 38 (ksC (inF (l.take j))) ∧ BC wr R 38 (ksC (inF [])) ∧ Kp w wr
set_option maxRecDepth 100000 in
set_option maxHeartbeats 4000000 in
theorem keySet_any (l : List Int) (v : Value) (w : World) (hl : RD w eInt v l) : Calls Try.prog 11 #[v] w (fun e w' => e = .returned (.agg (ksC (inF l)).toArray) ∧ Kp w w') := by
  obtain ⟨A, c, rfl, hc, _⟩ := hl.shape
  have HL := hide hl
  clear hl
  go_enter Try.func11, Try.ntmps11
  go_wp2
  obtain ⟨W, hW⟩ : ∃ W, W = (w.alloc (.cells #[.bool false, .bool false, .bool false, .bool false, .bool false, .bool false, .bool false, .bool false, .bool false, .bool false] 38)).alloc (.cells #[.bool false, .bool false, .bool false, .bool false, .bool false, .bool false, .bool false, .bool false, .bool false, .bool false] 38) := ⟨_, rfl⟩
  rw [← hW]
  have b0 : BC W w.heap.size 38 (ksC (inF [])) := by rw [hW]; exact (BC.new w 38 (ksC (inF []))).kp (Kp.refl _).alloc
  have b1 : BC W (w.heap.size + 1) 38 (ksC (inF [])) := by rw [hW]; have := BC.new (w.alloc (.cells #[.bool false, .bool false, .bool false, .bool false, .bool false, .bool false, .bool false, .bool false, .bool false, .bool false] 38)) 38 (ksC (inF [])); rw [show (w.alloc (.cells #[.bool false, .bool false, .bool false, .bool false, .bool false, .bool false, .bool false, .bool false, .bool false, .bool false] 38)).heap.size = w.heap.size + 1 by simp] at this; exact this
  have kW : Kp w W := by rw [hW]; exact (Kp.refl w).alloc.alloc
  obtain ⟨R, hR⟩ : ∃ R, R = w.heap.size := ⟨_, rfl⟩
  obtain ⟨O, hO⟩ : ∃ O, O = w.heap.size + 1 := ⟨_, rfl⟩
  have HRO := hide (And.intro hR hO)
  rw [← hR] at b0 ⊢
  rw [hR, ← hO] at ⊢
  rw [← hO] at b1
  rw [← hR]
  have HST : Hid (KsRel l w O R (.int .i64 0) W) := hide ⟨0, Nat.zero_le _, rfl, b1, b0, kW⟩
  clear hW b0 b1 kW hR hO
  go_loopw [8] (fun iv wx => KsRel l w O R iv wx) (fun iv _ => l.length - (intOf iv).toNat)
  case atStart => exact HST.out
  case round =>
    obtain ⟨j, hj, rfl, ho, hr, hkp⟩ := hrel
    by_cases hjl : j < l.length
    · obtain ⟨b, oo, e, _, x0⟩ := (HL.out.kp hkp).int hjl
      cases e
      have htk := List.take_succ_eq_append_getElem hjl
      obtain ⟨x, hx⟩ : ∃ x, x = l[j]'hjl := ⟨_, rfl⟩
      rw [← hx] at x0 htk
      have hmem : ∀ y, y ∈ l.take (j + 1) ↔ y ∈ l.take j ∨ y = x := fun y => by rw [htk, List.mem_append, List.mem_singleton]
      have HM := hide hmem
      have HO := hide ho
      have HR := hide hr
      have HK := hide hkp
      have HJ := hide hjl
      have hjli : (j : Int) < (l.length : Int) := by omega
      clear hx htk hmem
      rcases btw_cases x 0 9 with ⟨hb, hi⟩ | ⟨hb, hi⟩
      · obtain ⟨k, rfl⟩ : ∃ k : Nat, x = (k : Int) := ⟨x.toNat, by omega⟩
        have hk9 : k ≤ 9 := by omega
        have hki : (k : Int) < 10 := by omega
        have hko : (ksC (inF (l.take j)))[k]? = some (.bool (inF (l.take j) k)) := by
          rw [ksC_eq]; simp [show k < 10 by omega]
        have c0 : wr.cell? ⟨O, k, none⟩ = some (.bool (inF (l.take j) k)) := (ho.cell k).trans hko
        have f0 := ho.frozen k
        have hst := ksC_set (inF (l.take j)) (inF (l.take (j + 1))) k hk9 (by unfold inF; exact decide_eq_true ((HM.out _).2 (.inr rfl))) (fun y hy => by unfold inF; exact decide_eq_decide.2 ((HM.out y).trans ⟨fun h => h.elim id (fun h => absurd h hy), .inl⟩))
        have hne : R ≠ O := by have := HRO.out; omega
        have HN : Hid (KsRel l w O R (.int .i64 ((j + 1 : Nat) : Int)) (wr.setCell ⟨O, k, none⟩ (.bool true))) := hide ⟨j + 1, hjl, rfl, by rw [← hst]; exact ho.set, hr.far hne, hkp.set (p := ⟨O, k, none⟩) (show w.heap.size ≤ O by have := HRO.out; omega) _⟩
        have hk0 : (0 : Int) ≤ (k : Int) := by omega
        clear hst hne ho hr hkp hi hko
        go_wp2_with fail
        refine (between_any (k : Int) 0 9 _).mono ?_
        rintro e w2 ⟨rfl, rfl⟩
        rw [hb]
        go_wp2
        go_roundw
        case rel =>
          obtain ⟨k2, a1, a2, a3⟩ := HN.out
          exact ⟨k2, a1, by rw [← a2]; go_num, a3⟩
        case measure => simp [intOf]; have := HJ.out; omega
      · have HN : Hid (KsRel l w O R (.int .i64 ((j + 1 : Nat) : Int)) wr) := hide ⟨j + 1, hjl, rfl, by
          have e : ksC (inF (l.take (j + 1))) = ksC (inF (l.take j)) := by
            have e2 : ∀ y : Int, 0 ≤ y → y ≤ 9 → inF (l.take (j + 1)) y = inF (l.take j) y := fun y h1 h2 => by
              unfold inF; exact decide_eq_decide.2 ((HM.out y).trans ⟨fun h => h.elim id (fun h => by omega), .inl⟩)
            unfold ksC
            rw [e2 0 (by decide) (by decide), e2 1 (by decide) (by decide), e2 2 (by decide) (by decide), e2 3 (by decide) (by decide), e2 4 (by decide) (by decide), e2 5 (by decide) (by decide), e2 6 (by decide) (by decide), e2 7 (by decide) (by decide), e2 8 (by decide) (by decide), e2 9 (by decide) (by decide)]
          rw [e]; exact ho, hr, hkp⟩
        clear ho hr hkp hi
        go_wp2_with fail
        refine (between_any x 0 9 _).mono ?_
        rintro e w2 ⟨rfl, rfl⟩
        rw [hb]
        go_wp2
        go_roundw
        case rel =>
          obtain ⟨k2, a1, a2, a3⟩ := HN.out
          exact ⟨k2, a1, by rw [← a2]; go_num, a3⟩
        case measure => simp [intOf]; have := HJ.out; omega
    · rw [List.take_of_length_le (by omega)] at ho
      have HF : Hid (BC ((((((((((wr.setCell ⟨R, 0, none⟩ (.bool (inF l 0))).setCell ⟨R, 1, none⟩ (.bool (inF l 1))).setCell ⟨R, 2, none⟩ (.bool (inF l 2))).setCell ⟨R, 3, none⟩ (.bool (inF l 3))).setCell ⟨R, 4, none⟩ (.bool (inF l 4))).setCell ⟨R, 5, none⟩ (.bool (inF l 5))).setCell ⟨R, 6, none⟩ (.bool (inF l 6))).setCell ⟨R, 7, none⟩ (.bool (inF l 7))).setCell ⟨R, 8, none⟩ (.bool (inF l 8))).setCell ⟨R, 9, none⟩ (.bool (inF l 9))) R 38 (ksC (inF l)) ∧ Kp w ((((((((((wr.setCell ⟨R, 0, none⟩ (.bool (inF l 0))).setCell ⟨R, 1, none⟩ (.bool (inF l 1))).setCell ⟨R, 2, none⟩ (.bool (inF l 2))).setCell ⟨R, 3, none⟩ (.bool (inF l 3))).setCell ⟨R, 4, none⟩ (.bool (inF l 4))).setCell ⟨R, 5, none⟩ (.bool (inF l 5))).setCell ⟨R, 6, none⟩ (.bool (inF l 6))).setCell ⟨R, 7, none⟩ (.bool (inF l 7))).setCell ⟨R, 8, none⟩ (.bool (inF l 8))).setCell ⟨R, 9, none⟩ (.bool (inF l 9)))) := by
        have hz := HRO.out
        exact hide ⟨((((((((((hr.set (j := 0) (u := .bool (inF l 0))).set (j := 1) (u := .bool (inF l 1))).set (j := 2) (u := .bool (inF l 2))).set (j := 3) (u := .bool (inF l 3))).set (j := 4) (u := .bool (inF l 4))).set (j := 5) (u := .bool (inF l 5))).set (j := 6) (u := .bool (inF l 6))).set (j := 7) (u := .bool (inF l 7))).set (j := 8) (u := .bool (inF l 8))).set (j := 9) (u := .bool (inF l 9))), (Kp.set (p := ⟨R, 9, none⟩) (Kp.set (p := ⟨R, 8, none⟩) (Kp.set (p := ⟨R, 7, none⟩) (Kp.set (p := ⟨R, 6, none⟩) (Kp.set (p := ⟨R, 5, none⟩) (Kp.set (p := ⟨R, 4, none⟩) (Kp.set (p := ⟨R, 3, none⟩) (Kp.set (p := ⟨R, 2, none⟩) (Kp.set (p := ⟨R, 1, none⟩) (Kp.set (p := ⟨R, 0, none⟩) hkp (show w.heap.size ≤ R by omega) (.bool (inF l 0))) (show w.heap.size ≤ R by omega) (.bool (inF l 1))) (show w.heap.size ≤ R by omega) (.bool (inF l 2))) (show w.heap.size ≤ R by omega) (.bool (inF l 3))) (show w.heap.size ≤ R by omega) (.bool (inF l 4))) (show w.heap.size ≤ R by omega) (.bool (inF l 5))) (show w.heap.size ≤ R by omega) (.bool (inF l 6))) (show w.heap.size ≤ R by omega) (.bool (inF l 7))) (show w.heap.size ≤ R by omega) (.bool (inF l 8))) (show w.heap.size ≤ R by omega) (.bool (inF l 9)))⟩
      have hjli : ¬ (j : Int) < (l.length : Int) := by omega
      have hne : ¬ R = O := by have := HRO.out; omega
      have x0 : wr.cell? ⟨O, 0, none⟩ = some (.bool (inF l 0)) := ho.cell 0
      have y0 : wr.cell? ⟨R, 0, none⟩ = some (.bool (inF [] 0)) := hr.cell 0
      have g0 := hr.frozen 0
      have x1 : wr.cell? ⟨O, 1, none⟩ = some (.bool (inF l 1)) := ho.cell 1
      have y1 : wr.cell? ⟨R, 1, none⟩ = some (.bool (inF [] 1)) := hr.cell 1
      have g1 := hr.frozen 1
      have x2 : wr.cell? ⟨O, 2, none⟩ = some (.bool (inF l 2)) := ho.cell 2
      have y2 : wr.cell? ⟨R, 2, none⟩ = some (.bool (inF [] 2)) := hr.cell 2
      have g2 := hr.frozen 2
      have x3 : wr.cell? ⟨O, 3, none⟩ = some (.bool (inF l 3)) := ho.cell 3
      have y3 : wr.cell? ⟨R, 3, none⟩ = some (.bool (inF [] 3)) := hr.cell 3
      have g3 := hr.frozen 3
      have x4 : wr.cell? ⟨O, 4, none⟩ = some (.bool (inF l 4)) := ho.cell 4
      have y4 : wr.cell? ⟨R, 4, none⟩ = some (.bool (inF [] 4)) := hr.cell 4
      have g4 := hr.frozen 4
      have x5 : wr.cell? ⟨O, 5, none⟩ = some (.bool (inF l 5)) := ho.cell 5
      have y5 : wr.cell? ⟨R, 5, none⟩ = some (.bool (inF [] 5)) := hr.cell 5
      have g5 := hr.frozen 5
      have x6 : wr.cell? ⟨O, 6, none⟩ = some (.bool (inF l 6)) := ho.cell 6
      have y6 : wr.cell? ⟨R, 6, none⟩ = some (.bool (inF [] 6)) := hr.cell 6
      have g6 := hr.frozen 6
      have x7 : wr.cell? ⟨O, 7, none⟩ = some (.bool (inF l 7)) := ho.cell 7
      have y7 : wr.cell? ⟨R, 7, none⟩ = some (.bool (inF [] 7)) := hr.cell 7
      have g7 := hr.frozen 7
      have x8 : wr.cell? ⟨O, 8, none⟩ = some (.bool (inF l 8)) := ho.cell 8
      have y8 : wr.cell? ⟨R, 8, none⟩ = some (.bool (inF [] 8)) := hr.cell 8
      have g8 := hr.frozen 8
      have x9 : wr.cell? ⟨O, 9, none⟩ = some (.bool (inF l 9)) := ho.cell 9
      have y9 : wr.cell? ⟨R, 9, none⟩ = some (.bool (inF [] 9)) := hr.cell 9
      have g9 := hr.frozen 9
      clear ho hr hkp hjl
      go_wp2
      refine bodyPost_ret (v := .agg (ksC (inF l)).toArray) ?_ ?_ ⟨rfl, HF.out.2⟩
      · exact results_cell_row rfl _ _ R 38 _ (0, 0) _ rfl HF.out.1 Try.underlying38 rfl info_ten
      · rfl
end Go.Proofs.Ytoihdnekkgpcoaa
namespace Go.Proofs.Ytoihdnekkgpcoaa
open Go.ChangeShapes Go.WideShapes Go.ChangeAt Go.RowKit
set_option linter.unusedVariables false
set_option linter.unusedSimpArgs false

section
variable {P : Program} (w : World)
theorem run_equalIn_bool (d : Nat) (e : TypeId) (he : P.underlying e = some .bool) (a b : Bool) : (Op.equalIn (d + 1) e (.bool a) (.bool b)).run P w = .ok (a == b) w := by
  simp [Op.equalIn, run_underlying he]
theorem run_equalIn_bools (d : Nat) (t e : TypeId) (n : Nat) (ht : P.underlying t = some (.array n e)) (he : P.underlying e = some .bool) (hsz : ∀ w, (sizeOf e).run P w = .ok 1 w) (f g : Nat → Bool) (xs ys : Array Value)
    (hx : ∀ i, i < n → xs[i]? = some (.bool (f i))) (hy : ∀ i, i < n → ys[i]? = some (.bool (g i))) :
    (Op.equalIn (d + 2) t (.agg xs) (.agg ys)).run P w = .ok ((List.range n).all fun i => f i == g i) w := by
  rw [List.range_eq_range', Op.equalIn]
  simp only [Sem.run_bind, run_underlying ht, Result.andThen_ok, hsz, Std.Legacy.Range.forIn_eq_forIn_range', Std.Legacy.Range.size, Nat.sub_zero, Nat.add_sub_cancel, Nat.div_one]
  have hl : ∀ i ∈ List.range' 0 n 1, i < n := fun i hi => by simpa using (List.mem_range'_1.1 hi).2
  generalize List.range' 0 n 1 = l at hl ⊢
  induction l with
  | nil => simp
  | cons i l ih =>
    have hi : i < n := hl i (by simp)
    have px : (Go.part e xs (i * 1)).run P w = .ok (.bool (f i)) w := by
      simp [Go.part, isAgg, run_underlying he, hx i hi]
    have py : (Go.part e ys (i * 1)).run P w = .ok (.bool (g i)) w := by
      simp [Go.part, isAgg, run_underlying he, hy i hi]
    have pe := run_equalIn_bool (P := P) w d e he (f i) (g i)
    simp only [List.forIn_cons, Sem.run_bind, px, py, pe, Result.andThen_ok, List.all_cons]
    cases hb : (f i == g i)
    · simp
    · simp only [Bool.not_true, Bool.false_eq_true, if_false, Sem.run_pure, Result.andThen_ok, Bool.true_and]
      exact ih fun j hj => hl j (by simp [hj])
theorem run_eql_bools (t e : TypeId) (n : Nat) (ht : P.underlying t = some (.array n e)) (he : P.underlying e = some .bool) (hsz : ∀ w, (sizeOf e).run P w = .ok 1 w) (f g : Nat → Bool) (xs ys : Array Value)
    (hx : ∀ i, i < n → xs[i]? = some (.bool (f i))) (hy : ∀ i, i < n → ys[i]? = some (.bool (g i))) :
    (binOp .eql t (.agg xs) (.agg ys)).run P w = .ok (.bool ((List.range n).all fun i => f i == g i)) w := by
  rw [run_eql_struct, run_equalIn_bools w 9998 t e n ht he hsz f g xs ys hx hy]
  rfl
end
theorem all_fin (f g : Int → Bool) : ((List.range 10).all fun i => f i == g i) = decide (∀ k : Fin 10, f k.val = g k.val) := by
  rw [Bool.eq_iff_iff, List.all_eq_true, decide_eq_true_eq]
  constructor
  · intro h k; have := h k.val (List.mem_range.2 k.isLt); simpa using this
  · intro h i hi; have := h ⟨i, List.mem_range.1 hi⟩; simpa using this
/-- A candidate: may it be the next one, and all others behind it? -/
def candF (D : Nat → Nat → Dd) (left : Int → Bool) (f : Nat) (has : Int → Bool) (todo : List Tl) (k : Nat) : Bool := match todo[k]? with
      | none => false
      | some x => !(todo.any (fun y => decide (y.2.2.fin < x.2.2.bgn))) && (decide (x.2.2.is = (has (D x.1 x.2.1).key != decide ((D x.1 x.2.1).kind = 1)))) &&
          ordF D left f (fun y => if y = (D x.1 x.2.1).key ∧ (D x.1 x.2.1).kind ≠ 3 then decide ((D x.1 x.2.1).kind = 1) else has y) (todo.eraseIdx k)
theorem ordF_nil (D : Nat → Nat → Dd) (left has : Int → Bool) : ordF D left 0 has [] = decide (∀ k : Fin 10, has k.val = left k.val) := rfl
theorem ordF_suc (D : Nat → Nat → Dd) (left has : Int → Bool) (f : Nat) (todo : List Tl) (h : todo ≠ []) : ordF D left (f + 1) has todo = (List.range todo.length).any (candF D left f has todo) := by
  show (if todo.isEmpty then _ else _) = _
  rw [if_neg (by simpa using h)]
  rfl
theorem ksC_get (f : Int → Bool) {k : Nat} (h : k ≤ 9) : (ksC f)[k]? = some (.bool (f k)) := by
  rw [ksC_eq]; simp [show k < 10 by omega]
theorem ksC_put (f g : Int → Bool) (k : Nat) (hk : k ≤ 9) (v : Bool) (h1 : g k = v) (h2 : ∀ x : Int, x ≠ k → g x = f x) : (ksC f).set k (.bool v) = ksC g := by
  rw [ksC_eq, ksC_eq]
  apply List.ext_getElem?
  intro j
  simp only [List.getElem?_set, List.getElem?_map, List.length_map, List.length_range]
  by_cases e : k = j
  · subst e; simp [show k < 10 by omega, h1]
  · by_cases hj : j < 10
    · simp [e, hj, h2 (j : Int) (by omega)]
    · simp [e, hj]
theorem run_eqK (f g : Int → Bool) (w : World) : (binOp .eql 38 (.agg (ksC f).toArray) (.agg (ksC g).toArray)).run Try.prog w = .ok (.bool (decide (∀ k : Fin 10, f k.val = g k.val))) w := by
  rw [← all_fin]
  exact run_eql_bools w 38 4 10 Try.underlying38 Try.underlying4 (fun w => by kernel_rfl) (fun i => f i) (fun i => g i) _ _ (fun i hi => by have := ksC_get f (k := i) (by omega); simpa using this) (fun i hi => by have := ksC_get g (k := i) (by omega); simpa using this)
theorem ld_ten {W : World} {p : Nat} {f : Int → Bool} (h : BC W p 38 (ksC f)) : (Instr.loadAt 38 (.pointer (some ⟨p, 0, none⟩))).run Try.prog W = .ok (.agg (ksC f).toArray) W := by
  simp only [Instr.loadAt, Instr.sureAddr, Sem.run_bind, Sem.run_pure, Result.andThen_ok, run_loadVar_row W p 38 38 (ksC f).toArray (0, 0) _ h Try.underlying38 rfl info_ten]
set_option maxRecDepth 100000 in
theorem ordClos_any (y : Tl) (xv : Nat) (b : Nat) (w : World) (hc : w.cell? ⟨xv, 2, none⟩ = some (.int .i64 b)) : Calls Try.prog 26 #[tlV y, .pointer (some ⟨xv, 0, none⟩)] w (fun e w' => e = .returned (.bool (decide (y.2.2.fin < b))) ∧ Kp w w') := by
  obtain ⟨ya, ye, yb, yf, yi⟩ := y
  have hc2 : (w.alloc (.cells #[.int .i64 ya, .int .i64 ye, .int .i64 yb, .int .i64 yf, .bool yi] 35)).cell? ⟨xv, 2, none⟩ = some (.int .i64 b) := (Kp.refl w).alloc.cell hc
  unfold tlV
  simp only
  go_enter Try.func26, Try.ntmps26
  go_wp2
  go_ret
  exact ⟨rfl, (Kp.refl w).alloc⟩
end Go.Proofs.Ytoihdnekkgpcoaa
namespace Go.Proofs.Ytoihdnekkgpcoaa
open Go.ChangeShapes Go.WideShapes Go.ChangeAt Go.RowKit
set_option linter.unusedVariables false
set_option linter.unusedSimpArgs false

/-- What the last region of a round knows. -/
def JO (w0 : World) (L : Array Bool) (w : World) (γ : Bool) : Prop := Kp w0 w ∧ (L.getD 12 true = false → γ = false)
def GO (B : Nat) (td : TypeId) (todo td2 : List Tl) (b : Bool) (d : Nat) (v : Value) (w : World) (γ : Bool) : Prop := (d = 66 → γ = false → OW w B td eDone v todo) ∧ (d = 70 → RD w eDone v td2) ∧ (d = 72 ∨ d = 73 → v = .bool b)
section
variable {w0 w w' : World} {L : Array Bool} {γ : Bool} {B d : Nat} {td : TypeId} {todo td2 : List Tl} {b : Bool} {v : Value}
theorem JO.go (h : JO w0 L w γ) (k : Kp w w') (i : Nat) (hi : i ≠ 12) : JO w0 (L.setIfInBounds i true) w' γ := ⟨h.1.trans k, fun e => h.2 (by rwa [getS_far _ _ _ hi] at e)⟩
theorem JO.del (h : JO w0 L w γ) (k : Kp w0 w') : JO w0 (L.setIfInBounds 12 true) w' true := ⟨k, (fun e => by rw [getS_same] at e; cases e)⟩
theorem GO.none (h : d ≠ 66 ∧ d ≠ 70 ∧ d ≠ 72 ∧ d ≠ 73) : GO B td todo td2 b d v w γ := ⟨fun e => absurd e h.1, fun e => absurd e h.2.1, fun e => by omega⟩
theorem GO.kp (h : GO B td todo td2 b d v w γ) (k : Kp w w') : GO B td todo td2 b d v w' γ := ⟨fun e g => (h.1 e g).kp k, fun e => (h.2.1 e).kp k, h.2.2⟩
theorem GO.del (h : GO B td todo td2 b d v w γ) (hd : d ≠ 70) : GO B td todo td2 b d v w' true := ⟨(fun _ g => by cases g), fun e => absurd e hd, h.2.2⟩
end
theorem erase_cut {α : Type} (l : List α) (k : Nat) (h : k < l.length) : l.eraseIdx k = l.take k ++ l.drop (k + 1) := List.eraseIdx_eq_take_drop_succ l k
def OrR (D : Nat → Nat → Dd) (left : Int → Bool) (f : Nat) (has : Int → Bool) (todo : List Tl) (w1 : World) (iv : Value) (wx : World) : Prop :=
  ∃ k : Nat, k ≤ todo.length ∧ iv = .int .i64 k ∧ (∀ j, j < k → candF D left f has todo j = false) ∧ Kp w1 wx
def AtP (P : List (List Dd)) (x : Tl) : Prop := ∃ (h1 : x.1 < P.length) (h2 : x.2.1 < (P[x.1]'h1).length), dd P x.1 x.2.1 = (P[x.1]'h1)[x.2.1]'h2
set_option maxRecDepth 100000 in
set_option maxHeartbeats 8000000 in
theorem orders_any (P : List (List Dd)) (hok : ∀ i e, okD (dd P i e)) (left : Int → Bool) : ∀ (f : Nat) (todo : List Tl) (has : Int → Bool) (vp vt : Value) (w : World), todo.length = f → f ≤ 16 → RDS w eDeed vp P → RD w eDone vt todo → (∀ x ∈ todo, AtP P x) →
    Calls Try.prog 15 #[.agg (ksC has).toArray, vp, vt, .agg (ksC left).toArray] w (fun e w' => e = .returned (.bool (ordF (dd P) left f has todo)) ∧ Kp w w') := by
  intro f
  induction f with
  | zero =>
    intro todo has vp vt w hl hf hp ht hat
    have e0 : todo = [] := List.eq_nil_of_length_eq_zero hl
    subst e0
    rw [ordF_nil]
    obtain ⟨pA, pC, rfl, _, _⟩ := hp.shape
    obtain ⟨tA, tC, rfl, _, _⟩ := ht.shape
    have qe := run_eqK has left
    obtain ⟨R, hR⟩ : ∃ R, R = decide (∀ k : Fin 10, has k.val = left k.val) := ⟨_, rfl⟩
    simp only [← hR] at qe
    rw [← hR]
    unfold ksC at qe ⊢
    clear hR hp ht hat
    simp only [List.length_nil]
    go_enter Try.func15, Try.ntmps15
    go_wp2
    go_ret
    exact ⟨rfl, (Kp.refl w).alloc.alloc⟩
  | succ f ih =>
    intro todo has vp vt w hl hf hp ht hat
    have hne : todo ≠ [] := by intro e; subst e; simp at hl
    rw [ordF_suc _ _ _ _ _ hne]
    obtain ⟨pA, pC, rfl, hpC, _⟩ := hp.shape
    obtain ⟨tA, tC, rfl, htC, _⟩ := ht.shape
    obtain ⟨R, hR⟩ : ∃ R, R = (List.range todo.length).any (candF (dd P) left f has todo) := ⟨_, rfl⟩
    have HRT : Hid (∀ k, k < todo.length → candF (dd P) left f has todo k = true → R = true) := hide (fun k h1 h2 => by rw [hR]; exact List.any_eq_true.2 ⟨k, List.mem_range.2 h1, h2⟩)
    have HRF : Hid ((∀ k, k < todo.length → candF (dd P) left f has todo k = false) → R = false) := hide (fun h => by rw [hR]; exact List.any_eq_false.2 fun k hk => by rw [h k (List.mem_range.1 hk)]; decide)
    rw [← hR]
    have HP := hide hp
    have HT := hide ht
    have HAT := hide hat
    have HIH := hide ih
    have hlen0 : ((todo.length : Int) == 0) = false := beq_eq_false_iff_ne.2 (by omega)
    have HW0 : Hid (∀ W, W = (w.alloc (.cells (ksC has).toArray 38)).alloc (.cells (ksC left).toArray 38) → BC W w.heap.size 38 (ksC has) ∧ BC W (w.heap.size + 1) 38 (ksC left) ∧ Kp w W) := hide (fun W hW => ⟨by rw [hW]; exact (BC.new w _ _).kp (Kp.refl _).alloc, by rw [hW]; exact BC.made [.cells (ksC has).toArray 38, .cells (ksC left).toArray 38] w 1 rfl, by rw [hW]; exact (Kp.refl w).alloc.alloc⟩)
    obtain ⟨KH, hKH⟩ : ∃ K, K = (ksC has).toArray := ⟨_, rfl⟩
    obtain ⟨KL, hKL⟩ : ∃ K, K = (ksC left).toArray := ⟨_, rfl⟩
    rw [← hKH, ← hKL] at HW0 ⊢
    have HKL := hide hKL
    have HLEN := hide hl
    clear hKH hKL hp ht hat ih hR hne hl
    go_enter Try.func15, Try.ntmps15
    go_wp2
    obtain ⟨W1, hW1⟩ : ∃ W1, W1 = (w.alloc (.cells KH 38)).alloc (.cells KL 38) := ⟨_, rfl⟩
    rw [← hW1]
    obtain ⟨b0, b1, k01⟩ := HW0.out W1 hW1
    obtain ⟨Hh, hHh⟩ : ∃ Z, Z = w.heap.size := ⟨_, rfl⟩
    obtain ⟨Hl, hHl⟩ : ∃ Z, Z = w.heap.size + 1 := ⟨_, rfl⟩
    rw [← hHl, ← hHh]
    rw [← hHh] at b0
    rw [← hHl] at b1
    have HB0 := hide b0
    have HB1 := hide b1
    have HK1 := hide k01
    clear hW1 b0 b1 k01 HW0 hlen0 hHh hHl
    go_loopw [22] (fun iv wx => OrR (dd P) left f has todo W1 iv wx) (fun iv _ => todo.length - (intOf iv).toNat)
    case atStart => exact ⟨0, Nat.zero_le _, rfl, fun j h => absurd h (Nat.not_lt_zero _), Kp.refl _⟩
    case round =>
      obtain ⟨k, hk, rfl, hall, hkp⟩ := hrel
      by_cases hlt : k < todo.length
      · obtain ⟨b, oo, e, _, x0, x1, x2, x3, x4⟩ := (HT.out.kp (HK1.out.trans hkp)).done hlt
        have hatx := HAT.out _ (List.getElem_mem hlt)
        have hcand : candF (dd P) left f has todo k = (!(todo.any (fun y => decide (y.2.2.fin < (todo[k]'hlt).2.2.bgn))) && (decide ((todo[k]'hlt).2.2.is = (has (dd P (todo[k]'hlt).1 (todo[k]'hlt).2.1).key != decide ((dd P (todo[k]'hlt).1 (todo[k]'hlt).2.1).kind = 1)))) &&
            ordF (dd P) left f (fun y => if y = (dd P (todo[k]'hlt).1 (todo[k]'hlt).2.1).key ∧ (dd P (todo[k]'hlt).1 (todo[k]'hlt).2.1).kind ≠ 3 then decide ((dd P (todo[k]'hlt).1 (todo[k]'hlt).2.1).kind = 1) else has y) (todo.eraseIdx k)) := by
          unfold candF; rw [List.getElem?_eq_getElem hlt]
        obtain ⟨x, hx⟩ : ∃ x, x = todo[k]'hlt := ⟨_, rfl⟩
        rw [← hx] at x0 x1 x2 x3 x4 hatx hcand
        obtain ⟨xa, xe, xb, xf, xi⟩ := x
        obtain ⟨h1, h2, h3⟩ := hatx
        have hokd := hok xa xe
        simp only at x0 x1 x2 x3 x4 h1 h2 h3 hcand
        obtain ⟨pb, po, u, e2, _, y0, hu⟩ := (HP.out.kp (HK1.out.trans hkp)).at_ h1
        obtain ⟨uA, uC, rfl, huc, _⟩ := hu.shape
        obtain ⟨ub, uo, e3, _, z0, z1⟩ := hu.deed h2
        have hxl : (xa : Int) < (P.length : Int) := by omega
        have hel : (xe : Int) < ((P[xa]'h1).length : Int) := by omega
        obtain ⟨nU, hnU⟩ : ∃ n, n = (P[xa]'h1).length := ⟨_, rfl⟩
        rw [← h3] at z0 z1
        rw [← hnU] at y0 hel huc
        obtain ⟨dq, hdq⟩ : ∃ dq, dq = dd P xa xe := ⟨_, rfl⟩
        rw [← hdq] at z0 z1 hokd hcand
        obtain ⟨kd, ky⟩ := dq
        obtain ⟨q, hky⟩ : ∃ q : Nat, ky = (q : Int) := ⟨ky.toNat, by have := hokd.1; simp only at this; omega⟩
        subst hky
        have hk9 : q ≤ 9 := by have := hokd.2.1; simp only at this; omega
        have hkd := hokd.2.2
        simp only at z0 z1 hcand hkd
        have hq10 : (q : Int) < 10 := by omega
        have hlti : (k : Int) < (todo.length : Int) := by omega
        have HLT := hide hlt
        have HALL := hide hall
        have HKP := hide hkp
        -- what a round leaves that goes on, and one that ends
        have HNX : Hid (candF (dd P) left f has todo k = false → ∀ W, Kp wr W → OrR (dd P) left f has todo W1 (.int .i64 ((k + 1 : Nat) : Int)) W) := hide (fun h W kW => ⟨k + 1, hlt, rfl, fun j hj => by
          by_cases e : j = k
          · subst e; exact h
          · exact hall j (by omega), hkp.trans kW⟩)
        obtain ⟨any, hany⟩ : ∃ y, y = todo.any (fun y => decide (y.2.2.fin < xb)) := ⟨_, rfl⟩
        have hCF : ∀ (W : World) (xv : Nat), Kp wr W → W.cell? ⟨xv, 2, none⟩ = some (.int .i64 xb) → Calls Try.prog 25 #[.slice tA todo.length tC, .func (.func 26) #[] #[.pointer (some ⟨xv, 0, none⟩)]] W (fun e w' => e = .returned (.bool any) ∧ Kp W w') := fun W xv kW hc => by
          rw [hany]
          exact containsDone_any todo _ _ _ (fun y => decide (y.2.2.fin < xb)) W (HT.out.kp (HK1.out.trans (hkp.trans kW))) (fun _ _ => by kernel_rfl) (fun y hy W2 k2 => ordClos_any y xv xb W2 (k2.cell hc))
        have HCF := hide hCF
        rw [← hany] at hcand
        clear hCF hany
        cases e
        cases e2
        cases e3
        clear hx hall hkp h3 hnU hdq hokd hlt hu
        go_wp2_with fail
        obtain ⟨w5, hw5⟩ : ∃ w5, w5 = wr.alloc (.cells #[.int .i64 xa, .int .i64 xe, .int .i64 xb, .int .i64 xf, .bool xi] 35) := ⟨_, rfl⟩
        have hbd : BC w5 wr.heap.size 35 [.int .i64 xa, .int .i64 xe, .int .i64 xb, .int .i64 xf, .bool xi] := by rw [hw5]; exact BC.new wr _ _
        have k5 : Kp wr w5 := by rw [hw5]; exact (Kp.refl wr).alloc
        rw [← hw5]
        have HBD := hide hbd
        have HK5 := hide k5
        have HCF5 := hide (HCF.out w5 wr.heap.size k5 (hbd.cell 2))
        obtain ⟨xv, hxv⟩ : ∃ xv, xv = wr.heap.size := ⟨_, rfl⟩
        rw [← hxv] at HBD HCF5 ⊢
        have HY0 := hide (k5.cell y0)
        have HZ0 := hide (k5.cell z0)
        have HZ1 := hide (k5.cell z1)
        clear hw5 hbd k5 hxv y0 z0 z1 HCF x0 x1 x2 x3 x4
        refine HCF5.out.mono ?_
        rintro e w6 ⟨rfl, hk6⟩
        have HK6 := hide (HK5.out.trans hk6)
        have hb6 := HBD.out.kp hk6
        have y0 := hk6.cell HY0.out
        have z0 := hk6.cell HZ0.out
        have z1 := hk6.cell HZ1.out
        clear hk6 HCF5 HY0 HZ0 HZ1
        cases any with
        | true =>
          have HN := hide (HNX.out (by rw [hcand]; rfl) _ HK6.out)
          clear hcand HNX hkd
          go_wp2
          go_roundw
          case rel =>
            obtain ⟨k2, a1, a2, a3⟩ := HN.out
            exact ⟨k2, a1, by rw [← a2]; go_num, a3⟩
          case measure => simp [intOf]; have := HLT.out; omega
        | false =>
          have x0 : w6.cell? ⟨xv, 0, none⟩ = some (.int .i64 xa) := hb6.cell 0
          have x1 : w6.cell? ⟨xv, 1, none⟩ = some (.int .i64 xe) := hb6.cell 1
          have ka : Kp w6 (w6.alloc (.cells #[.int .i64 0, .int .i64 0] 23)) := (Kp.refl w6).alloc
          have x0a := ka.cell x0
          have x1a := ka.cell x1
          have y0a := ka.cell y0
          have z0a := ka.cell z0
          have z1a := ka.cell z1
          have HB6 := hide hb6
          clear hb6 ka
          go_upto_region 7 with fail
          go_cut [11] from 30 to 38 (fun s11 wx => s11 = .pointer (some ⟨w6.heap.size, 0, none⟩) ∧ wx = (w6.alloc (.cells #[.int .i64 kd, .int .i64 q] 23)).drew)
          case first =>
            go_region_law (fail)
            all_goals
              go_wp2_with fail
              go_meet
              exact ⟨rfl, rfl⟩
          case rest =>
          obtain ⟨rfl, hwc⟩ := hcut
          obtain ⟨wA, hwA⟩ : ∃ wA, wA = wc := ⟨_, rfl⟩
          rw [← hwA] at hwc ⊢
          clear hwA
          have hbe : BC wA w6.heap.size 23 [.int .i64 kd, .int .i64 q] := by rw [hwc]; exact BC.new w6 _ _
          have k6c : Kp w6 wA := by rw [hwc]; exact (Kp.refl w6).alloc.drew
          have HKC := hide (HK6.out.trans k6c)
          have hbx := HB6.out.kp k6c
          have HBX := hide hbx
          have e0 : wA.cell? ⟨w6.heap.size, 0, none⟩ = some (.int .i64 kd) := hbe.cell 0
          have e1 : wA.cell? ⟨w6.heap.size, 1, none⟩ = some (.int .i64 q) := hbe.cell 1
          have hbh := HB0.out.kp (HKP.out.trans HKC.out)
          have HBL := hide (HB1.out.kp (HKP.out.trans HKC.out))
          have m0 : wA.cell? ⟨Hh, 0, none⟩ = some (.bool (has 0)) := hbh.cell 0
          have m1 : wA.cell? ⟨Hh, 1, none⟩ = some (.bool (has 1)) := hbh.cell 1
          have m2 : wA.cell? ⟨Hh, 2, none⟩ = some (.bool (has 2)) := hbh.cell 2
          have m3 : wA.cell? ⟨Hh, 3, none⟩ = some (.bool (has 3)) := hbh.cell 3
          have m4 : wA.cell? ⟨Hh, 4, none⟩ = some (.bool (has 4)) := hbh.cell 4
          have m5 : wA.cell? ⟨Hh, 5, none⟩ = some (.bool (has 5)) := hbh.cell 5
          have m6 : wA.cell? ⟨Hh, 6, none⟩ = some (.bool (has 6)) := hbh.cell 6
          have m7 : wA.cell? ⟨Hh, 7, none⟩ = some (.bool (has 7)) := hbh.cell 7
          have m8 : wA.cell? ⟨Hh, 8, none⟩ = some (.bool (has 8)) := hbh.cell 8
          have m9 : wA.cell? ⟨Hh, 9, none⟩ = some (.bool (has 9)) := hbh.cell 9
          have c0 : wA.cell? ⟨Hh, q, none⟩ = some (.bool (has q)) := (hbh.cell q).trans (ksC_get has hk9)
          have kca : Kp wA (wA.alloc (.cells #[.bool (has 0), .bool (has 1), .bool (has 2), .bool (has 3), .bool (has 4), .bool (has 5), .bool (has 6), .bool (has 7), .bool (has 8), .bool (has 9)] 38)) := (Kp.refl wA).alloc
          have hbn : BC (wA.alloc (.cells #[.bool (has 0), .bool (has 1), .bool (has 2), .bool (has 3), .bool (has 4), .bool (has 5), .bool (has 6), .bool (has 7), .bool (has 8), .bool (has 9)] 38)) wA.heap.size 38 (ksC has) := BC.new wA 38 (ksC has)
          have cn : (wA.alloc (.cells #[.bool (has 0), .bool (has 1), .bool (has 2), .bool (has 3), .bool (has 4), .bool (has 5), .bool (has 6), .bool (has 7), .bool (has 8), .bool (has 9)] 38)).cell? ⟨wA.heap.size, q, none⟩ = some (.bool (has q)) := (hbn.cell q).trans (ksC_get has hk9)
          have fn := hbn.frozen q
          have e0a := kca.cell e0
          have e1a := kca.cell e1
          have nne : ¬ w6.heap.size = wA.heap.size := by have := hbe.lt; omega
          obtain ⟨nx, hnx⟩ : ∃ nx : Int → Bool, nx = fun y => if y = (q : Int) ∧ kd ≠ 3 then decide (kd = 1) else has y := ⟨_, rfl⟩
          rw [← hnx] at hcand
          have HCUT : Hid (∀ W, (kd = 1 ∧ W = wA.alloc (.cells ([.bool (has 0), .bool (has 1), .bool (has 2), .bool (has 3), .bool (has 4), .bool (has 5), .bool (has 6), .bool (has 7), .bool (has 8), .bool (has 9)].set q (.bool true)).toArray 38)) ∨ (kd = 2 ∧ W = wA.alloc (.cells ([.bool (has 0), .bool (has 1), .bool (has 2), .bool (has 3), .bool (has 4), .bool (has 5), .bool (has 6), .bool (has 7), .bool (has 8), .bool (has 9)].set q (.bool false)).toArray 38)) ∨ (kd = 3 ∧ W = wA.alloc (.cells #[.bool (has 0), .bool (has 1), .bool (has 2), .bool (has 3), .bool (has 4), .bool (has 5), .bool (has 6), .bool (has 7), .bool (has 8), .bool (has 9)] 38)) → BC W wA.heap.size 38 (ksC nx) ∧ Kp wA W) := hide (by
            intro W h
            rcases h with ⟨h, rfl⟩ | ⟨h, rfl⟩ | ⟨h, rfl⟩
            · rw [← ksC_put has nx q hk9 true (by rw [hnx, h]; simp) (fun x hx => by rw [hnx]; simp [hx])]
              exact ⟨BC.new wA 38 ((ksC has).set q (.bool true)), (Kp.refl wA).alloc⟩
            · rw [← ksC_put has nx q hk9 false (by rw [hnx, h]; simp) (fun x hx => by rw [hnx]; simp [hx])]
              exact ⟨BC.new wA 38 ((ksC has).set q (.bool false)), (Kp.refl wA).alloc⟩
            · have e : nx = has := by rw [hnx, h]; funext y; simp
              rw [e]
              exact ⟨hbn, kca⟩)
          obtain ⟨d2, hd2⟩ : ∃ d2, d2 = w6.heap.size := ⟨_, rfl⟩
          obtain ⟨hasq, hhq⟩ : ∃ h, h = has q := ⟨_, rfl⟩
          have HHQ := hide hhq
          rw [← hd2] at e0 e1 e0a e1a nne ⊢
          rw [← hhq] at c0
          clear hwc hbe k6c hbx hbh kca hbn hd2 x0 x1 y0 z0 z1 x0a x1a y0a z0a z1a hnx hhq
          go_upto_block 2 with fail
          go_cut [12] from 46 to 57 (fun s12 wx => s12 = .bool (hasq != decide (kd = 1)) ∧ BC wx wA.heap.size 38 (ksC nx) ∧ Kp wA wx)
          case first =>
            rcases hkd with h1 | h1 | h1
            · have d1 : (kd == 1) = true := by simp [h1]
              have HE := hide h1
              clear h1
              go_wp2_with fail
              go_meet
              exact ⟨by rw [HE.out]; cases hasq <;> rfl, HCUT.out _ (.inl ⟨HE.out, rfl⟩)⟩
            · have d1 : (kd == 1) = false := by simp [h1]
              have d2 : (kd == 2) = true := by simp [h1]
              have HE := hide h1
              clear h1
              go_wp2_with fail
              go_meet
              exact ⟨by rw [HE.out]; cases hasq <;> rfl, HCUT.out _ (.inr (.inl ⟨HE.out, rfl⟩))⟩
            · have d1 : (kd == 1) = false := by simp [h1]
              have d2 : (kd == 2) = false := by simp [h1]
              have HE := hide h1
              clear h1
              go_wp2_with fail
              go_meet
              exact ⟨by rw [HE.out]; cases hasq <;> rfl, HCUT.out _ (.inr (.inr ⟨HE.out, rfl⟩))⟩
          case rest =>
          revert hcut
          generalize hwB0 : wc = wB
          intro hcut
          obtain ⟨rfl, hbn2, hkn⟩ := hcut
          obtain ⟨G, hG⟩ : ∃ G, G = (hasq != decide (kd = 1)) := ⟨_, rfl⟩
          rw [← HHQ.out, ← hG] at hcand
          rw [← hG]
          obtain ⟨td2, htd⟩ : ∃ td2, td2 = todo.eraseIdx k := ⟨_, rfl⟩
          obtain ⟨bb, hbb⟩ : ∃ bb, bb = ordF (dd P) left f nx td2 := ⟨_, rfl⟩
          rw [← htd, ← hbb] at hcand
          have hKB := HKP.out.trans (HKC.out.trans hkn)
          have hK1B := HK1.out.trans hKB
          have HX4 : Hid (wB.cell? ⟨xv, 4, none⟩ = some (.bool xi)) := hide ((HBX.out.kp hkn).cell 4)
          obtain ⟨nv, hnv⟩ : ∃ nv, nv = wA.heap.size := ⟨_, rfl⟩
          rw [← hnv] at hbn2 ⊢
          cases hg : (G == xi) with
          | false =>
            have hcf : candF (dd P) left f has todo k = false := by
              rw [hcand]
              have : decide (xi = G) = false := by cases G <;> cases xi <;> simp_all
              rw [this]; simp
            have HN := hide (fun W (kW : Kp wB W) => HNX.out hcf W (HKC.out.trans (hkn.trans kW)))
            have x4 := HX4.out
            clear hcand HNX hcf hbn2 hkn hKB hK1B hG htd hbb hnv
            go_wp2_with fail
            go_quiet (fail)
            go_wp2
            go_roundw
            case rel =>
              obtain ⟨k2, a1, a2, a3⟩ := HN.out _ ((Kp.refl wB).drewN)
              exact ⟨k2, a1, by rw [← a2]; go_num, a3⟩
            case measure => simp [intOf]; have := HLT.out; omega
          | true =>
            have hGx : xi = G := Eq.symm (by simpa using hg)
            subst hGx
            have hcb : candF (dd P) left f has todo k = bb := by rw [hcand]; simp
            have HCB := hide hcb
            have HLN : Hid (∀ W, Kp wB W → (Instr.loadAt 38 (.pointer (some ⟨nv, 0, none⟩))).run Try.prog W = .ok (.agg (ksC nx).toArray) W) := hide (fun W kW => ld_ten (hbn2.kp kW))
            have HLL : Hid (∀ W, Kp wB W → (Instr.loadAt 38 (.pointer (some ⟨Hl, 0, none⟩))).run Try.prog W = .ok (.agg KL) W) := hide (fun W kW => by rw [HKL.out]; exact ld_ten (HBL.out.kp (hkn.trans kW)))
            have HCLN : Hid (∀ W, Kp wB W → Calls Try.prog 28 #[.slice (some ⟨b, oo, none⟩) todo.length tC] W (RetOW 35 eDone todo W)) := hide (fun W kW => cloneDone_any todo _ W (HT.out.kp (hK1B.trans kW)) (by have := HLEN.out; omega))
            have HKT : Hid (k < todo.length) := HLT
            have HTL : Hid (todo.length ≤ 1000) := hide (by have := HLEN.out; omega)
            have HTD : Hid (td2 = todo.take k ++ todo.drop (k + 1)) := hide (by rw [htd]; exact erase_cut todo k HLT.out)
            have HOR : Hid (∀ x W, Kp wB W → RD W eDone x td2 → Calls Try.prog 15 #[.agg (ksC nx).toArray, .slice (some ⟨pb, po, none⟩) P.length pC, x, .agg KL] W (fun e w' => e = .returned (.bool bb) ∧ Kp W w')) := hide (fun x W kW hx => by
              rw [HKL.out, hbb]
              refine HIH.out td2 nx _ x W (by rw [htd, List.length_eraseIdx]; have := HLT.out; rw [if_pos this]; have := HLEN.out; omega) (by omega) (HP.out.kp (hK1B.trans kW)) hx (fun y hy => HAT.out y ?_)
              rw [htd] at hy
              exact List.mem_of_mem_eraseIdx hy)
            have HN := hide (fun (h : bb = false) W (kW : Kp wB W) => HNX.out (HCB.out.trans h) W (HKC.out.trans (hkn.trans kW)))
            have HFN := hide (fun (h : bb = true) => HRT.out k HLT.out (HCB.out.trans h))
            have HKB := hide hK1B
            obtain ⟨KN, hKN⟩ : ∃ K, K = (ksC nx).toArray := ⟨_, rfl⟩
            rw [← hKN] at HLN HOR
            have hk64 : IntKind.i64.wrap ((k : Int) + 1) = (k : Int) + 1 := IntWalk.i64_in _ (by omega)
            clear hcand HNX hcb hbn2 hkn hKB hK1B hG htd hbb hnv hKN hg
            go_wp2_with fail
            refine wp_region_tabG (by kernel_rfl) [(58, .bool xi), (59, .pointer (some ⟨xv, 4, none⟩)), (60, .bool xi), (61, .bool true), (62, .bool true), (63, .agg KN), (64, .slice (some ⟨pb, po, none⟩) P.length pC), (65, .slice (some ⟨b, oo, none⟩) todo.length tC), (67, .int .i64 k), (68, .int .i64 k), (69, .int .i64 ((k : Int) + 1)), (71, .agg KL)] (GO wB.heap.size 35 todo td2 bb) (JO wB) false ⟨(Kp.refl _).drew, fun _ => rfl⟩ (by kernel_rfl) (by kernel_rfl) ?_ ?_
            · refine ⟨?_, ?_, ?_, ?_, ?_, ?_, ?_, ?_, ?_, ?_, ?_, ?_, ?_, ?_, ?_, ?_, trivial⟩
              · intro hop L a w5 γ hs hk hl ha keep know spec
                have h12 := keep 12 (.bool xi) (by kernel_rfl) rfl
                exact wpOp_value hop (wanted_none rfl) (v := .bool xi) (by simp only [execOp, Act.eval, h12]; rfl) ⟨_, γ, rfl, hk.go (Kp.refl _) 0 (by decide), (fun d hd => by injection hd with hd; subst hd; exact ⟨tab rfl, GO.none (by decide)⟩), fun _ _ _ h => h⟩
              · intro hop L a w5 γ hs hk hl ha keep know spec
                have h10 := keep 10 (.pointer (some ⟨xv, 0, none⟩)) (by kernel_rfl) rfl
                exact wpOp_value hop (wanted_none rfl) (v := .pointer (some ⟨xv, 4, none⟩)) (by simp only [execOp, Act.eval, h10]; rfl) ⟨_, γ, rfl, hk.go (Kp.refl _) 1 (by decide), (fun d hd => by injection hd with hd; subst hd; exact ⟨tab rfl, GO.none (by decide)⟩), fun _ _ _ h => h⟩
              · intro hop L a w5 γ hs hk hl ha keep know spec
                have h59 := know 59 (.pointer (some ⟨xv, 4, none⟩)) (by kernel_rfl) rfl
                have q := hk.1.cell HX4.out
                exact wpOp_value hop (wanted_none rfl) (v := .bool xi) (by simp only [execOp, Act.eval, h59]; go_simp) ⟨_, γ, rfl, hk.go (Kp.refl _) 2 (by decide), (fun d hd => by injection hd with hd; subst hd; exact ⟨tab rfl, GO.none (by decide)⟩), fun _ _ _ h => h⟩
              · intro hop L a w5 γ hs hk hl ha keep know spec
                have h58 := know 58 (.bool xi) (by kernel_rfl) rfl
                have h60 := know 60 (.bool xi) (by kernel_rfl) rfl
                exact wpOp_value hop (wanted_none rfl) (v := .bool true) (by simp only [execOp, Act.eval, h58, h60]; go_simp) ⟨_, γ, rfl, hk.go (Kp.refl _) 3 (by decide), (fun d hd => by injection hd with hd; subst hd; exact ⟨tab rfl, GO.none (by decide)⟩), fun _ _ _ h => h⟩
              · intro hop L a w5 γ hs hk hl ha keep know spec
                have h61 := know 61 (.bool true) (by kernel_rfl) rfl
                exact wpOp_value hop (wanted_none rfl) (v := .bool true) (by simp only [execOp, Act.eval, h61]; rfl) ⟨_, γ, rfl, hk.go (Kp.refl _) 4 (by decide), (fun d hd => by injection hd with hd; subst hd; exact ⟨tab rfl, GO.none (by decide)⟩), fun _ _ _ h => h⟩
              · intro hop L a w5 γ hs hk hl ha keep know spec
                have h13 := keep 13 (.pointer (some ⟨nv, 0, none⟩)) (by kernel_rfl) rfl
                have hg := know 62 (.bool true) (by kernel_rfl) rfl
                exact wpOp_value hop ((wanted_bool rfl rfl hg).trans rfl) (v := .agg KN) (by simp only [execOp, Act.eval, h13]; exact run_v (HLN.out _ hk.1)) ⟨_, γ, rfl, hk.go (Kp.refl _) 5 (by decide), (fun d hd => by injection hd with hd; subst hd; exact ⟨tab rfl, GO.none (by decide)⟩), fun _ _ _ h => h⟩
              · intro hop L a w5 γ hs hk hl ha keep know spec
                have h1 := keep 1 (.slice (some ⟨pb, po, none⟩) P.length pC) (by kernel_rfl) rfl
                have hg := know 62 (.bool true) (by kernel_rfl) rfl
                exact wpOp_value hop ((wanted_bool rfl rfl hg).trans rfl) (v := .slice (some ⟨pb, po, none⟩) P.length pC) (by simp only [execOp, Act.eval, h1]; rfl) ⟨_, γ, rfl, hk.go (Kp.refl _) 6 (by decide), (fun d hd => by injection hd with hd; subst hd; exact ⟨tab rfl, GO.none (by decide)⟩), fun _ _ _ h => h⟩
              · intro hop L a w5 γ hs hk hl ha keep know spec
                have h2 := keep 2 (.slice (some ⟨b, oo, none⟩) todo.length tC) (by kernel_rfl) rfl
                have hg := know 62 (.bool true) (by kernel_rfl) rfl
                exact wpOp_value hop ((wanted_bool rfl rfl hg).trans rfl) (v := .slice (some ⟨b, oo, none⟩) todo.length tC) (by simp only [execOp, Act.eval, h2]; rfl) ⟨_, γ, rfl, hk.go (Kp.refl _) 7 (by decide), (fun d hd => by injection hd with hd; subst hd; exact ⟨tab rfl, GO.none (by decide)⟩), fun _ _ _ h => h⟩
              · intro hop L a w5 γ hs hk hl ha keep know spec
                have h65 := know 65 (.slice (some ⟨b, oo, none⟩) todo.length tC) (by kernel_rfl) rfl
                have hg := know 62 (.bool true) (by kernel_rfl) rfl
                exact wpOp_call hop ((wanted_bool rfl rfl hg).trans rfl) (by simp only [execOp, resolve, Act.eval, List.map_toArray, List.map_cons, List.map_nil, h65]; rfl) (HCLN.out w5 hk.1) fun e w6 hR => by
                  obtain ⟨v', rfl, ho, hb6⟩ := hR
                  exact ⟨_, rfl, _, γ, rfl, hk.go (Kp.of hb6) 8 (by decide), (fun d hd => by injection hd with hd; subst hd; exact ⟨tab_none rfl, ⟨fun _ _ => ho.more hk.1.size, fun e => by omega, fun e => by omega⟩⟩), fun _ _ _ h => h.kp (Kp.of hb6)⟩
              · intro hop L a w5 γ hs hk hl ha keep know spec
                have h9 := keep 9 (.int .i64 k) (by kernel_rfl) rfl
                have hg := know 62 (.bool true) (by kernel_rfl) rfl
                exact wpOp_value hop ((wanted_bool rfl rfl hg).trans rfl) (v := .int .i64 k) (by simp only [execOp, Act.eval, h9]; rfl) ⟨_, γ, rfl, hk.go (Kp.refl _) 9 (by decide), (fun d hd => by injection hd with hd; subst hd; exact ⟨tab rfl, GO.none (by decide)⟩), fun _ _ _ h => h⟩
              · intro hop L a w5 γ hs hk hl ha keep know spec
                have h9 := keep 9 (.int .i64 k) (by kernel_rfl) rfl
                have hg := know 62 (.bool true) (by kernel_rfl) rfl
                exact wpOp_value hop ((wanted_bool rfl rfl hg).trans rfl) (v := .int .i64 k) (by simp only [execOp, Act.eval, h9]; rfl) ⟨_, γ, rfl, hk.go (Kp.refl _) 10 (by decide), (fun d hd => by injection hd with hd; subst hd; exact ⟨tab rfl, GO.none (by decide)⟩), fun _ _ _ h => h⟩
              · intro hop L a w5 γ hs hk hl ha keep know spec
                have h68 := know 68 (.int .i64 k) (by kernel_rfl) rfl
                have hg := know 62 (.bool true) (by kernel_rfl) rfl
                exact wpOp_value hop ((wanted_bool rfl rfl hg).trans rfl) (v := .int .i64 ((k : Int) + 1)) (by simp only [execOp, Act.eval, h68]; go_simp) ⟨_, γ, rfl, hk.go (Kp.refl _) 11 (by decide), (fun d hd => by injection hd with hd; subst hd; exact ⟨tab rfl, GO.none (by decide)⟩), fun _ _ _ h => h⟩
              · intro hop L a w5 γ hs hk hl ha keep know spec
                have h67 := know 67 (.int .i64 k) (by kernel_rfl) rfl
                have h69 := know 69 (.int .i64 ((k : Int) + 1)) (by kernel_rfl) rfl
                have hg := know 62 (.bool true) (by kernel_rfl) rfl
                have hG := (spec 66 (by kernel_rfl)).1 rfl (hk.2 hl)
                obtain ⟨x, hx⟩ : ∃ x, x = a.tmps.getD 66 undef := ⟨_, rfl⟩
                rw [← hx] at hG
                exact wpOp_call hop ((wanted_bool rfl rfl hg).trans rfl) (by simp only [execOp, resolve, Act.eval, List.map_toArray, List.map_cons, List.map_nil, ← hx, h67, h69]; rfl) (deleteDone_any todo k x wB.heap.size w5 hG HKT.out HTL.out) fun e w6 hR => by
                  obtain ⟨v', rfl, ho, hg, hat⟩ := hR
                  have kp6 : Kp wB w6 := Kp.app hg hk.1 hG.hi
                  exact ⟨_, rfl, _, true, rfl, hk.del kp6, (fun d hd => by injection hd with hd; subst hd; exact ⟨tab_none rfl, ⟨fun e => by omega, fun _ => by rw [HTD.out]; exact ho.rd, fun e => by omega⟩⟩), fun d u hne h => h.del (fun e => hne (by rw [e]))⟩
              · intro hop L a w5 γ hs hk hl ha keep know spec
                have h7 := keep 7 (.pointer (some ⟨Hl, 0, none⟩)) (by kernel_rfl) rfl
                have hg := know 62 (.bool true) (by kernel_rfl) rfl
                exact wpOp_value hop ((wanted_bool rfl rfl hg).trans rfl) (v := .agg KL) (by simp only [execOp, Act.eval, h7]; exact run_v (HLL.out _ hk.1)) ⟨_, γ, rfl, hk.go (Kp.refl _) 13 (by decide), (fun d hd => by injection hd with hd; subst hd; exact ⟨tab rfl, GO.none (by decide)⟩), fun _ _ _ h => h⟩
              · intro hop L a w5 γ hs hk hl ha keep know spec
                have h63 := know 63 (.agg KN) (by kernel_rfl) rfl
                have h64 := know 64 (.slice (some ⟨pb, po, none⟩) P.length pC) (by kernel_rfl) rfl
                have h71 := know 71 (.agg KL) (by kernel_rfl) rfl
                have hg := know 62 (.bool true) (by kernel_rfl) rfl
                have hG := (spec 70 (by kernel_rfl)).2.1 rfl
                obtain ⟨x, hx⟩ : ∃ x, x = a.tmps.getD 70 undef := ⟨_, rfl⟩
                rw [← hx] at hG
                exact wpOp_call hop ((wanted_bool rfl rfl hg).trans rfl) (by simp only [execOp, resolve, Act.eval, List.map_toArray, List.map_cons, List.map_nil, h63, h64, ← hx, h71]; rfl) (HOR.out x w5 hk.1 hG) fun e w6 hR => by
                  obtain ⟨rfl, hk6⟩ := hR
                  exact ⟨_, rfl, _, γ, rfl, hk.go hk6 14 (by decide), (fun d hd => by injection hd with hd; subst hd; exact ⟨tab_none rfl, ⟨fun e => by omega, fun e => by omega, fun _ => rfl⟩⟩), fun _ _ _ h => h.kp hk6⟩
              · intro hop L a w5 γ hs hk hl ha keep know spec
                have h62 := know 62 (.bool true) (by kernel_rfl) rfl
                have hG := (spec 72 (by kernel_rfl)).2.2 (.inl rfl)
                exact wpOp_value hop (wanted_none rfl) (v := .bool bb) (by simp only [execOp, Act.eval, h62, hG]; rfl) ⟨_, γ, rfl, hk.go (Kp.refl _) 15 (by decide), (fun d hd => by injection hd with hd; subst hd; exact ⟨tab_none rfl, ⟨fun e => by omega, fun e => by omega, fun _ => rfl⟩⟩), fun _ _ _ h => h⟩
            · intro a' w9 γ' e1' e2' hk9' keep know spec
              obtain ⟨tm, df⟩ := a'
              obtain ⟨f9, hfd, hff⟩ := frame_putsE (D := [58, 59, 60, 61, 62, 63, 64, 65, 66, 67, 68, 69, 70, 71, 72, 73]) e2' keep
              have e73 := (spec 73 (by kernel_rfl)).2.2 (.inr rfl)
              rw [hfd 73] at e73
              have e3' : df = [] := e1'
              clear keep know spec e1' e2' hfd
              simp only [List.foldl_cons, List.foldl_nil, List.setIfInBounds_toArray, List.set_cons_zero, List.set_cons_succ] at hff
              rw [e73] at hff
              subst e3'
              rw [hff]
              clear hff e73
              have HK9 := hide hk9'.1
              clear hk9'
              cases bb with
              | true =>
                have HF1 := hide (HFN.out rfl)
                go_wp2
                go_ret
                exact ⟨by rw [HF1.out]; rfl, HKB.out.trans HK9.out⟩
              | false =>
                have HN1 := hide (HN.out rfl _ HK9.out)
                go_wp2
                go_roundw
                case rel =>
                  obtain ⟨k2, a1, a2, a3⟩ := HN1.out
                  exact ⟨k2, a1, by rw [← a2]; go_num, a3⟩
                case measure => simp [intOf]; have := HLT.out; omega
      · have HF : Hid (R = false) := hide (HRF.out (fun j hj => hall j (by omega)))
        have HKP := hide (HK1.out.trans hkp)
        have hlti : ¬ (k : Int) < (todo.length : Int) := by omega
        clear hall hkp hlt
        go_wp2
        go_ret
        exact ⟨by rw [HF.out]; rfl, HKP.out⟩
end Go.Proofs.Ytoihdnekkgpcoaa
namespace Go.Proofs.Ytoihdnekkgpcoaa
open Go.ChangeShapes Go.WideShapes Go.ChangeAt Go.RowKit
set_option linter.unusedVariables false
set_option linter.unusedSimpArgs false

def lenP (P : List (List Dd)) : Nat := (P.map List.length).sum
theorem lenP_take {P : List (List Dd)} {k : Nat} (h : k < P.length) : lenP (P.take (k + 1)) = lenP (P.take k) + P[k].length := by
  unfold lenP
  rw [List.take_succ_eq_append_getElem h, List.map_append, List.sum_append]
  simp
theorem lenP_le {P : List (List Dd)} (h : ∀ p ∈ P, p.length ≤ 4) : lenP P ≤ 4 * P.length := by
  unfold lenP
  induction P with
  | nil => simp
  | cons a t ih =>
    have h1 := h a (by simp)
    have h2 := ih fun p hp => h p (by simp [hp])
    simp only [List.map_cons, List.sum_cons, List.length_cons]
    omega
theorem doneL_lenP {P : List (List Dd)} {s : St} (h : ∀ i, (s.told i).length = ndl P i) : ∀ n, n ≤ P.length → (doneL s n).length = lenP (P.take n) := by
  intro n
  induction n with
  | zero => intro _; simp [doneL, lenP]
  | succ n ih =>
    intro hn
    have e : doneL s (n + 1) = doneL s n ++ (s.told n).mapIdx (fun e r => (n, e, r)) := by
      unfold doneL
      rw [List.range_succ, List.flatMap_append]
      simp
    have e2 : ndl P n = (P[n]'(by omega)).length := by unfold ndl; simp [show n < P.length by omega]
    rw [e, List.length_append, List.length_mapIdx, ih (by omega), h, lenP_take (by omega), e2]
def inG (l : List Int) : Int → Bool := fun x => decide (x ∈ l ∨ x = -1 ∨ x = 10)
theorem ksC_inG (l : List Int) : ksC (inG l) = ksC (inF l) := by
  have e : ∀ x : Int, 0 ≤ x → x ≤ 9 → inG l x = inF l x := fun x h1 h2 => by
    unfold inG inF
    exact decide_eq_decide.2 ⟨fun h => by rcases h with h | h | h; exact h; omega; omega, .inl⟩
  unfold ksC
  rw [e 0 (by decide) (by decide), e 1 (by decide) (by decide), e 2 (by decide) (by decide), e 3 (by decide) (by decide), e 4 (by decide) (by decide), e 5 (by decide) (by decide), e 6 (by decide) (by decide), e 7 (by decide) (by decide), e 8 (by decide) (by decide), e 9 (by decide) (by decide)]
theorem inS_all {l : List Int} {P : List (List Dd)} (h : OkIn l P) (x : Int) : InS (mm0 l) x ↔ (x ∈ l ∨ x = -1 ∨ x = 10) := by
  constructor
  · rintro ⟨i, hi, _, e⟩
    have hi : i < l.length + 2 := hi
    have e : (if i = 0 then (-1 : Int) else if h : i - 1 < l.length then l[i - 1] else 10) = x := e
    split at e
    · exact .inr (.inl e.symm)
    · split at e
      · rename_i h2; rw [← e]; exact .inl (List.getElem_mem h2)
      · exact .inr (.inr e.symm)
  · rintro (hx | rfl | rfl)
    · obtain ⟨i, hi, rfl⟩ := List.mem_iff_getElem.1 hx
      exact ⟨i + 1, by show i + 1 < l.length + 2; omega, rfl, by simp [mm0, hi]⟩
    · exact ⟨0, by show 0 < l.length + 2; omega, rfl, rfl⟩
    · exact ⟨l.length + 1, by show l.length + 1 < l.length + 2; omega, rfl, by simp [mm0]⟩
theorem lives_kpO (w : World) : Calls Try.prog 10 #[] w (fun e w' => e = .returned (.bool true) ∧ Kp w w') := (hlives_any w).mono fun e w' h => ⟨h.1, Kp.of h.2⟩
def HoA (P : List (List Dd)) (w : World) (nv iv : Value) (wr : World) : Prop := ∃ k : Nat, k ≤ P.length ∧ iv = .int .i64 k ∧ nv = .int .i64 (lenP (P.take k)) ∧ w = wr
def HoB (D : List (Nat × Nat × Dn)) (w : World) (iv : Value) (wr : World) : Prop := ∃ k : Nat, k ≤ D.length ∧ iv = .int .i64 k ∧ Kp w wr
set_option maxRecDepth 100000 in
set_option maxHeartbeats 8000000 in
theorem handsOrder_walk (algo : Int) (l : List Int) (P : List (List Dd)) (o : List Int) (vl vp vo : Value) (w : World) (hn : -9223372036854775808 ≤ algo ∧ algo ≤ 9223372036854775807) (hl : RD w eInt vl l) (hp : RDS w eDeed vp P) (ho : RD w eInt vo o) :
    Calls Try.prog 8 #[.int .i64 algo, vl, vp, vo] w (Ret (.bool true) w) := by
  by_cases hr : rgF algo l P o.length = 0
  · by_cases h4 : algo = 4
    · subst h4
      have HRun : Hid (Calls Try.prog 9 #[.int .i64 4, vl, vp, vo] w (fun e w' => ∃ (a b : Option Addr) (n c m d : Nat), e = .returned (.tuple #[.agg #[.slice a n c, .slice b m d], .int .i64 0]) ∧ Kp w w')) := hide ((hrun_any 4 l P o vl vp vo w hl hp ho hr).mono (by
        rintro e w' ⟨s, vd, vf, rfl, _, h1, h2, hk⟩
        obtain ⟨a, n, c, rfl⟩ := h1.slice
        obtain ⟨b, m, d, rfl⟩ := h2.slice
        exact ⟨a, b, n, c, m, d, rfl, hk⟩))
      obtain ⟨A1, c1, rfl, hc1, _⟩ := hl.shape
      obtain ⟨A2, c2, rfl, hc2, _⟩ := hp.shape
      obtain ⟨A3, c3, rfl, hc3, _⟩ := ho.shape
      clear hl hp ho hr hn
      go_enter Try.func8, Try.ntmps8
      go_wp2_with fail
      refine HRun.out.mono ?_
      rintro e w1 ⟨xa, xb, xn, xc, xm, xd, rfl, hk1⟩
      have HK1 := hide hk1
      clear hk1 HRun
      go_wp2_with fail
      refine (lives_kpO _).mono ?_
      rintro e w2 ⟨rfl, hk2⟩
      have HK2 := hide (HK1.out.trans ((Kp.refl w1).alloc.trans hk2))
      clear hk2
      go_wp2_with fail
      refine (lives_kpO _).mono ?_
      rintro e w3 ⟨rfl, hk3⟩
      have HK3 := hide (HK2.out.trans hk3)
      clear hk3
      go_wp2
      go_ret
      exact ⟨rfl, HK3.out.bel⟩
    · have HRun := hide (run_sd hl hp ho hr h4)
      obtain ⟨_, _, ok⟩ := rgF_ok hr
      have HOK := hide ok
      have hP4 := ok.len
      have hlp := lenP_le ok.len2
      have d4 : (algo == 4) = false := beq_eq_false_iff_ne.2 h4
      have HKS := hide (fun W (k : Kp w W) => keySet_any l vl W (hl.kp k))
      obtain ⟨A1, c1, rfl, hc1, _⟩ := hl.shape
      obtain ⟨A2, c2, rfl, hc2, _⟩ := hp.shape
      obtain ⟨A3, c3, rfl, hc3, _⟩ := ho.shape
      have HP := hide hp
      clear hl hp ho hr hn h4 ok
      go_enter Try.func8, Try.ntmps8
      go_wp2_with fail
      refine HRun.out.mono ?_
      rintro e w1 ⟨s, D, lf, vd, vf, rfl, hd, hlf, hk1, hs, hD, hL, hD16⟩
      obtain ⟨dA, dC, rfl, hdc, _⟩ := hd.shape
      obtain ⟨lA, lC, rfl, hlc, _⟩ := hlf.shape
      have HD := hide hd
      have HLF := hide hlf
      have HK1 := hide hk1
      have hDn : D.length = lenP P := by rw [hD, doneL_lenP hs.2.2.1 P.length (Nat.le_refl _), List.take_length]
      have HAT : Hid (∀ x ∈ D, AtP P x) := hide (fun x hx => hs.at_ (by rw [← hD]; exact hx))
      have HBE : Hid (∀ x ∈ D, (x.2.2.bgn : Int) ≤ x.2.2.fin) := hide (fun x hx => by
        obtain ⟨_, _, _, L, q1, _, _, q4⟩ := hs
        exact q4 x (q1.symm.subset (by rw [← hD]; exact hx)))
      obtain ⟨q1, q2, q3⟩ := leftM_spec s.m hs.1
      have HOF : Hid (ordF (dd P) (inF lf) D.length (inG l) D = true) := hide (by
        obtain ⟨_, _, _, L, r1, r2, r3, r4⟩ := hs
        refine ordF_of D.length L D (inG l) (InS (mm0 l)) (InS s.m) rfl (by rw [hD]; exact r1) r2 (fun x => ?_) (fun x h1 h2 => ?_) r3 r4
        · unfold inG
          rw [decide_eq_true_eq]
          exact inS_all HOK.out x
        · unfold inF
          rw [decide_eq_true_eq, hL]
          exact (q3 x h1 h2).symm)
      have HDN := hide hDn
      clear hd hlf hk1 HRun hs hD hL q1 q2 q3 hDn
      go_wp2_with fail
      have hq : BC (w1.alloc (.cells #[.slice dA D.length dC, .slice lA lf.length lC] 29)) w1.heap.size 29 [.slice dA D.length dC, .slice lA lf.length lC] := BC.new _ _ _
      refine (lives_kpO _).mono ?_
      rintro e w2 ⟨rfl, hk2⟩
      have hq2 := hq.kp hk2
      have HQ := hide hq2
      have HK2 := hide (HK1.out.trans ((Kp.refl w1).alloc.trans hk2))
      have HD2 := hide (HD.out.kp ((Kp.refl w1).alloc.trans hk2))
      have HLF2 := hide (HLF.out.kp ((Kp.refl w1).alloc.trans hk2))
      obtain ⟨Z, hZ⟩ : ∃ Z, Z = w1.heap.size := ⟨_, rfl⟩
      rw [← hZ] at HQ ⊢
      clear hq hq2 hk2 hZ HD HLF
      go_wp2
      go_loopw [11, 47] (fun nv iv wx => HoA P w2 nv iv wx) (fun _ iv _ => P.length - (intOf iv).toNat)
      case atStart => exact ⟨0, Nat.zero_le _, rfl, rfl, rfl⟩
      case round =>
        obtain ⟨k, hk, rfl, rfl, rfl⟩ := hrel
        by_cases hlt : k < P.length
        · obtain ⟨b, oo, u, e, _, c0, hu⟩ := (HP.out.kp HK2.out).at_ hlt
          cases e
          obtain ⟨uA, uC, rfl, huc, _⟩ := hu.shape
          have htk := lenP_take hlt
          have h44 : (P[k]'hlt).length ≤ 4 := HOK.out.len2 _ (List.getElem_mem hlt)
          have hl2 := lenP_le (P := P.take k) (fun p hp => HOK.out.len2 p (List.mem_of_mem_take hp))
          rw [List.length_take] at hl2
          obtain ⟨n1, hn1⟩ : ∃ n, n = (P[k]'hlt).length := ⟨_, rfl⟩
          obtain ⟨n2, hn2⟩ : ∃ n, n = lenP (P.take k) := ⟨_, rfl⟩
          rw [← hn1] at c0 htk h44
          rw [← hn2] at htk hl2 ⊢
          have s1 : IntKind.i64.wrap ((n2 : Int) + (n1 : Int)) = ((n2 + n1 : Nat) : Int) := by rw [IntWalk.i64_in _ (by omega)]; omega
          have HTK := hide htk
          have HLT := hide hlt
          have hlti : (k : Int) < (P.length : Int) := by omega
          clear hu hn1 hn2 htk hl2 huc hlt
          go_wp2
          go_roundw
          case rel => exact ⟨k + 1, by have := HLT.out; omega, by go_num, by rw [HTK.out, Int.natCast_add], rfl⟩
          case measure => simp [intOf]; have := HLT.out; omega
        · rw [List.take_of_length_le (show P.length ≤ k by omega), ← HDN.out]
          have q0 : w2.cell? ⟨Z, 0, none⟩ = some (.slice dA D.length dC) := HQ.out.cell 0
          have dne : ((D.length : Int) != (D.length : Int)) = false := by simp
          have hlti : ¬ (k : Int) < (P.length : Int) := by omega
          have HND := hide (show D.length ≤ 16 from hD16)
          clear hlt
          go_wp2
          go_loopw [64] (fun iv wx => HoB D w2 iv wx) (fun iv _ => D.length - (intOf iv).toNat)
          case atStart => exact ⟨0, Nat.zero_le _, rfl, Kp.refl _⟩
          case round =>
            obtain ⟨j, hj, rfl, hkp⟩ := hrel
            by_cases hlt2 : j < D.length
            · obtain ⟨b, oo, e, _, x0, x1, x2, x3, x4⟩ := (HD2.out.kp hkp).done hlt2
              cases e
              have hbe := HBE.out _ (List.getElem_mem hlt2)
              obtain ⟨x, hx⟩ : ∃ x, x = D[j]'hlt2 := ⟨_, rfl⟩
              rw [← hx] at x0 x1 x2 x3 x4 hbe
              obtain ⟨xa, xe, xb, xf, xi⟩ := x
              simp only at x0 x1 x2 x3 x4 hbe
              have d5 : decide (xf < (xb : Int)) = false := decide_eq_false (by omega)
              have hlti2 : (j : Int) < (D.length : Int) := by omega
              have HLT := hide hlt2
              have HKP := hide hkp
              clear hx hkp hlt2 hbe
              go_wp2
              go_roundw
              case rel => exact ⟨j + 1, by have := HLT.out; omega, by go_num, by have := HKP.out; (focus ((repeat (first | (with_reducible assumption) | (with_reducible exact Kp.refl _) | (with_reducible apply Kp.drew) | (with_reducible apply Kp.drewN) | ((with_reducible apply Kp.setR); (focus (first | (with_reducible assumption) | (simp; done) | (simp; omega)))) | (with_reducible apply Kp.alloc) | ((with_reducible apply Kp.call); (with_reducible assumption)) | ((with_reducible apply Kp.app); (with_reducible assumption)))); done))⟩
              case measure => simp [intOf]; have := HLT.out; omega
            · have hwB := hkp
              obtain ⟨wB, hwBe⟩ : ∃ wB, wB = wr := ⟨_, rfl⟩
              rw [← hwBe] at hkp ⊢
              have hKB := HK2.out.trans hkp
              have HKB := hide hKB
              have HQ0 : Hid (wB.cell? ⟨Z, 0, none⟩ = some (.slice dA D.length dC)) := hide ((HQ.out.kp hkp).cell 0)
              have HQ1 : Hid (wB.cell? ⟨Z, 1, none⟩ = some (.slice lA lf.length lC)) := hide ((HQ.out.kp hkp).cell 1)
              obtain ⟨nD, hnD⟩ : ∃ n : Int, n = (D.length : Int) := ⟨_, rfl⟩
              have hlti2 : ¬ (j : Int) < (D.length : Int) := by omega
              clear hwB hwBe
              go_wp2_with fail
              by_cases h7 : 7 < D.length
              · have d7 : decide ((7 : Int) < (D.length : Int)) = true := decide_eq_true (by omega)
                clear h7 hkp hKB hnD
                go_quiet (fail)
                go_wp2
                go_ret
                exact ⟨rfl, (HKB.out.trans ((Kp.refl wB).drewN)).bel⟩
              · have HN7 : Hid (¬ (7 : Int) < nD) := hide (by omega)
                have HKS1 : Hid (∀ W, Kp wB W → Calls Try.prog 11 #[.slice A1 l.length c1] W (fun e w' => e = .returned (.agg (ksC (inF l)).toArray) ∧ Kp W w')) := hide (fun W kW => HKS.out W (hKB.trans kW))
                have HKS2 : Hid (∀ W, Kp wB W → Calls Try.prog 11 #[.slice lA lf.length lC] W (fun e w' => e = .returned (.agg (ksC (inF lf)).toArray) ∧ Kp W w')) := hide (fun W kW => keySet_any lf _ W (HLF2.out.kp (hkp.trans kW)))
                have HORD : Hid (∀ W, Kp wB W → Calls Try.prog 15 #[.agg (ksC (inF l)).toArray, .slice A2 P.length c2, .slice dA D.length dC, .agg (ksC (inF lf)).toArray] W (fun e w' => e = .returned (.bool true) ∧ Kp W w')) := hide (fun W kW => by
                  have h := orders_any P (dd_ok HOK.out.deeds) (inF lf) D.length D (inG l) _ _ W rfl HND.out (HP.out.kp (hKB.trans kW)) (HD2.out.kp (hkp.trans kW)) HAT.out
                  rw [HOF.out, ksC_inG] at h
                  exact h)
                obtain ⟨KS, hKS⟩ : ∃ K, K = (ksC (inF l)).toArray := ⟨_, rfl⟩
                obtain ⟨KL, hKL⟩ : ∃ K, K = (ksC (inF lf)).toArray := ⟨_, rfl⟩
                rw [← hKS] at HKS1 HORD
                rw [← hKL] at HKS2 HORD
                rw [← hnD]
                clear h7 hkp hKB hKS hKL hlti2 hnD
                refine wp_region_tabG (by kernel_rfl) [(74, .int .i64 nD), (75, .bool false), (76, .bool false), (77, .slice A1 l.length c1), (78, .agg KS), (79, .slice A2 P.length c2), (80, .pointer (some ⟨Z, 0, none⟩)), (81, .slice dA D.length dC), (82, .pointer (some ⟨Z, 1, none⟩)), (83, .slice lA lf.length lC), (84, .agg KL), (85, .bool true), (86, .bool true), (8, .bool true)] (fun _ _ _ _ => True) (fun _ W (_ : Nat) => Kp wB W) 0 (Kp.refl wB).drew (by kernel_rfl) (by kernel_rfl) ?_ ?_
                · refine ⟨?_, ?_, ?_, ?_, ?_, ?_, ?_, ?_, ?_, ?_, ?_, ?_, ?_, ?_, trivial⟩
                  · intro hop L a w5 γ hs hk hl ha keep know spec
                    have h11 := keep 11 (.int .i64 nD) (by kernel_rfl) rfl
                    exact wpOp_value hop (wanted_none rfl) (v := .int .i64 nD) (by simp only [execOp, Act.eval, h11]; rfl) ⟨_, γ, rfl, hk, (fun d hd => by injection hd with hd; subst hd; exact ⟨tab rfl, trivial⟩), fun _ _ _ h => h⟩
                  · intro hop L a w5 γ hs hk hl ha keep know spec
                    have h74 := know 74 (.int .i64 nD) (by kernel_rfl) rfl
                    exact wpOp_value hop (wanted_none rfl) (v := .bool false) (by simp only [execOp, Act.eval, h74]; first | (go_simp; done) | (go_simp; exact HN7.out) | (go_simp; have := HN7.out; omega)) ⟨_, γ, rfl, hk, (fun d hd => by injection hd with hd; subst hd; exact ⟨tab rfl, trivial⟩), fun _ _ _ h => h⟩
                  · intro hop L a w5 γ hs hk hl ha keep know spec
                    have h75 := know 75 (.bool false) (by kernel_rfl) rfl
                    exact wpOp_value hop (wanted_none rfl) (v := .bool false) (by simp only [execOp, Act.eval, h75]; rfl) ⟨_, γ, rfl, hk, (fun d hd => by injection hd with hd; subst hd; exact ⟨tab rfl, trivial⟩), fun _ _ _ h => h⟩
                  · intro hop L a w5 γ hs hk hl ha keep know spec
                    have h1 := keep 1 (.slice A1 l.length c1) (by kernel_rfl) rfl
                    have hg := know 76 (.bool false) (by kernel_rfl) rfl
                    exact wpOp_value hop ((wanted_bool rfl rfl hg).trans rfl) (v := .slice A1 l.length c1) (by simp only [execOp, Act.eval, h1]; rfl) ⟨_, γ, rfl, hk, (fun d hd => by injection hd with hd; subst hd; exact ⟨tab rfl, trivial⟩), fun _ _ _ h => h⟩
                  · intro hop L a w5 γ hs hk hl ha keep know spec
                    have h77 := know 77 (.slice A1 l.length c1) (by kernel_rfl) rfl
                    have hg := know 76 (.bool false) (by kernel_rfl) rfl
                    exact wpOp_call hop ((wanted_bool rfl rfl hg).trans rfl) (by simp only [execOp, resolve, Act.eval, List.map_toArray, List.map_cons, List.map_nil, h77]; rfl) (HKS1.out w5 hk) fun e w6 hR => by
                      obtain ⟨rfl, hk6⟩ := hR
                      exact ⟨_, rfl, _, γ, rfl, hk.trans hk6, (fun d hd => by injection hd with hd; subst hd; exact ⟨tab rfl, trivial⟩), fun _ _ _ h => h⟩
                  · intro hop L a w5 γ hs hk hl ha keep know spec
                    have h2 := keep 2 (.slice A2 P.length c2) (by kernel_rfl) rfl
                    have hg := know 76 (.bool false) (by kernel_rfl) rfl
                    exact wpOp_value hop ((wanted_bool rfl rfl hg).trans rfl) (v := .slice A2 P.length c2) (by simp only [execOp, Act.eval, h2]; rfl) ⟨_, γ, rfl, hk, (fun d hd => by injection hd with hd; subst hd; exact ⟨tab rfl, trivial⟩), fun _ _ _ h => h⟩
                  · intro hop L a w5 γ hs hk hl ha keep know spec
                    have h9 := keep 9 (.pointer (some ⟨Z, 0, none⟩)) (by kernel_rfl) rfl
                    have hg := know 76 (.bool false) (by kernel_rfl) rfl
                    exact wpOp_value hop ((wanted_bool rfl rfl hg).trans rfl) (v := .pointer (some ⟨Z, 0, none⟩)) (by simp only [execOp, Act.eval, h9]; rfl) ⟨_, γ, rfl, hk, (fun d hd => by injection hd with hd; subst hd; exact ⟨tab rfl, trivial⟩), fun _ _ _ h => h⟩
                  · intro hop L a w5 γ hs hk hl ha keep know spec
                    have h80 := know 80 (.pointer (some ⟨Z, 0, none⟩)) (by kernel_rfl) rfl
                    have hg := know 76 (.bool false) (by kernel_rfl) rfl
                    have q := hk.cell HQ0.out
                    exact wpOp_value hop ((wanted_bool rfl rfl hg).trans rfl) (v := .slice dA D.length dC) (by simp only [execOp, Act.eval, h80]; go_simp) ⟨_, γ, rfl, hk, (fun d hd => by injection hd with hd; subst hd; exact ⟨tab rfl, trivial⟩), fun _ _ _ h => h⟩
                  · intro hop L a w5 γ hs hk hl ha keep know spec
                    have h9 := keep 9 (.pointer (some ⟨Z, 0, none⟩)) (by kernel_rfl) rfl
                    have hg := know 76 (.bool false) (by kernel_rfl) rfl
                    exact wpOp_value hop ((wanted_bool rfl rfl hg).trans rfl) (v := .pointer (some ⟨Z, 1, none⟩)) (by simp only [execOp, Act.eval, h9]; rfl) ⟨_, γ, rfl, hk, (fun d hd => by injection hd with hd; subst hd; exact ⟨tab rfl, trivial⟩), fun _ _ _ h => h⟩
                  · intro hop L a w5 γ hs hk hl ha keep know spec
                    have h82 := know 82 (.pointer (some ⟨Z, 1, none⟩)) (by kernel_rfl) rfl
                    have hg := know 76 (.bool false) (by kernel_rfl) rfl
                    have q := hk.cell HQ1.out
                    exact wpOp_value hop ((wanted_bool rfl rfl hg).trans rfl) (v := .slice lA lf.length lC) (by simp only [execOp, Act.eval, h82]; go_simp) ⟨_, γ, rfl, hk, (fun d hd => by injection hd with hd; subst hd; exact ⟨tab rfl, trivial⟩), fun _ _ _ h => h⟩
                  · intro hop L a w5 γ hs hk hl ha keep know spec
                    have h83 := know 83 (.slice lA lf.length lC) (by kernel_rfl) rfl
                    have hg := know 76 (.bool false) (by kernel_rfl) rfl
                    exact wpOp_call hop ((wanted_bool rfl rfl hg).trans rfl) (by simp only [execOp, resolve, Act.eval, List.map_toArray, List.map_cons, List.map_nil, h83]; rfl) (HKS2.out w5 hk) fun e w6 hR => by
                      obtain ⟨rfl, hk6⟩ := hR
                      exact ⟨_, rfl, _, γ, rfl, hk.trans hk6, (fun d hd => by injection hd with hd; subst hd; exact ⟨tab rfl, trivial⟩), fun _ _ _ h => h⟩
                  · intro hop L a w5 γ hs hk hl ha keep know spec
                    have h78 := know 78 (.agg KS) (by kernel_rfl) rfl
                    have h79 := know 79 (.slice A2 P.length c2) (by kernel_rfl) rfl
                    have h81 := know 81 (.slice dA D.length dC) (by kernel_rfl) rfl
                    have h84 := know 84 (.agg KL) (by kernel_rfl) rfl
                    have hg := know 76 (.bool false) (by kernel_rfl) rfl
                    exact wpOp_call hop ((wanted_bool rfl rfl hg).trans rfl) (by simp only [execOp, resolve, Act.eval, List.map_toArray, List.map_cons, List.map_nil, h78, h79, h81, h84]; rfl) (HORD.out w5 hk) fun e w6 hR => by
                      obtain ⟨rfl, hk6⟩ := hR
                      exact ⟨_, rfl, _, γ, rfl, hk.trans hk6, (fun d hd => by injection hd with hd; subst hd; exact ⟨tab rfl, trivial⟩), fun _ _ _ h => h⟩
                  · intro hop L a w5 γ hs hk hl ha keep know spec
                    have h76 := know 76 (.bool false) (by kernel_rfl) rfl
                    have h85 := know 85 (.bool true) (by kernel_rfl) rfl
                    exact wpOp_value hop (wanted_none rfl) (v := .bool true) (by simp only [execOp, Act.eval, h76, h85]; rfl) ⟨_, γ, rfl, hk, (fun d hd => by injection hd with hd; subst hd; exact ⟨tab rfl, trivial⟩), fun _ _ _ h => h⟩
                  · intro hop L a w5 γ hs hk hl ha keep know spec
                    have h86 := know 86 (.bool true) (by kernel_rfl) rfl
                    exact wpOp_value hop (wanted_none rfl) (v := .bool true) (by simp only [execOp, Act.eval, h86]; rfl) ⟨_, γ, rfl, hk, (fun d hd => by injection hd with hd; subst hd; exact ⟨tab rfl, trivial⟩), fun _ _ _ h => h⟩
                · intro a' w9 γ' e1' e2' hk9' keep know spec
                  obtain ⟨tm, df⟩ := a'
                  obtain ⟨f9, hfd, hff⟩ := frame_putsE (D := [74, 75, 76, 77, 78, 79, 80, 81, 82, 83, 84, 85, 86, 8]) e2' keep
                  have e8 := know 8 (.bool true) (by kernel_rfl) rfl
                  rw [hfd 8] at e8
                  have e3' : df = [] := e1'
                  clear keep know spec e1' e2' hfd
                  simp only [List.foldl_cons, List.foldl_nil, List.setIfInBounds_toArray, List.set_cons_zero, List.set_cons_succ] at hff
                  rw [e8] at hff
                  subst e3'
                  rw [hff]
                  clear hff e8
                  have HK9 := hide (HKB.out.trans hk9')
                  clear hk9'
                  go_wp2
                  go_ret
                  exact ⟨rfl, HK9.out.bel⟩
  · have HRun := hide (hrun_bad algo l P o vl vp vo w hl hp ho hr)
    obtain ⟨R, hR⟩ : ∃ R, R = rgF algo l P o.length := ⟨_, rfl⟩
    rw [← hR] at HRun hr
    have d1 : (R != 0) = true := by simpa using hr
    have d2 : (R == 0) = false := by simpa using hr
    obtain ⟨A1, c1, rfl, hc1, _⟩ := hl.shape
    obtain ⟨A2, c2, rfl, hc2, _⟩ := hp.shape
    obtain ⟨A3, c3, rfl, hc3, _⟩ := ho.shape
    clear hl hp ho hr hR
    go_enter Try.func8, Try.ntmps8
    go_wp2_with fail
    refine HRun.out.mono ?_
    rintro e w1 ⟨rfl, hk1⟩
    have HK1 := hide hk1
    clear hk1 HRun
    go_wp2_with fail
    have hq : BC (w1.alloc (.cells #[.slice none 0 0, .slice none 0 0] 29)) w1.heap.size 29 [.slice none 0 0, .slice none 0 0] := BC.new _ _ _
    refine (lives_kpO _).mono ?_
    rintro e w2 ⟨rfl, hk2⟩
    have hq2 := hq.kp hk2
    have HK2 := hide (HK1.out.trans ((Kp.refl w1).alloc.trans hk2))
    clear hk2 hq
    go_wp2_with fail
    refine (lives_kpO _).mono ?_
    rintro e w3 ⟨rfl, hk3⟩
    have q0 : w3.cell? ⟨w1.heap.size, 0, none⟩ = some (.slice none 0 0) := (hq2.kp hk3).cell 0
    have HK3 := hide (HK2.out.trans hk3)
    clear hk3 hq2
    go_wp2
    go_ret
    exact ⟨rfl, HK3.out.bel⟩
end Go.Proofs.Ytoihdnekkgpcoaa
namespace Go.Proofs.Ytoihdnekkgpcoaa
open Go.ChangeShapes Go.WideShapes Go.ChangeAt Go.RowKit Go.Deep
set_option linter.unusedVariables false
set_option linter.unusedSimpArgs false

set_option maxRecDepth 100000 in
theorem handsOrder_lifted (os : Os) (started : os.Started) (H : Type) (enc : TypeId × Value → H) :
    ReturnsInHanded {} Try.checked os 8 .any (Rows.handsOrderSpec.pre6 enc Try.prog Try.f8 Rows.handsOrderRow.domain false) (Rows.handsOrderSpec.post enc Try.prog Try.f8 false true false false) := by
  refine returnsInHanded_of_change (C := Try.checked) own started (by kernel_rfl) Try.func8
    (ChangeSpec.witness6 (enc := enc) (C := Try.checked) false ⟨#[], #[.int .i64 0, .slice none 0 0, .slice none 0 0, .slice none 0 0], []⟩ 8 (by kernel_rfl) (by kernel_rfl) (by kernel_rfl) (by kernel_rfl)) ?_
  intro W base args ds gs before hval0 hW hcnd _
  have hval : ∀ (j : Nat) t v, Try.f8.params[j]? = some t → args[j]? = some v → Value.okWide Try.prog W .any base t v := hval0
  have hW' := hW
  obtain ⟨p, q, hA0, hV, rfl, hfz, hnd⟩ := hW
  have hA : DataW.TrodAll enc Try.prog W 0 (fun _ => true) true Try.f8.params.toList args.toList ds p := hA0
  rw [Try.params8] at hA hval
  obtain ⟨v0, vs0, d0, ds0, p0, q0, hargs, rfl, rfl, h0, r0⟩ := trodAll_cons hA
  obtain ⟨v1, vs1, d1, ds1, p1, q1, rfl, rfl, rfl, h1, r1⟩ := trodAll_cons r0
  obtain ⟨v2, vs2, d2, ds2, p2, q2, rfl, rfl, rfl, h2, r2⟩ := trodAll_cons r1
  obtain ⟨v3, vs3, d3, ds3, p3, q3, rfl, rfl, rfl, h3, r3⟩ := trodAll_cons r2
  obtain ⟨rfl, rfl, rfl⟩ := trodAll_nil r3
  obtain rfl : args = #[v0, v1, v2, v3] := by cases args; simp_all
  obtain ⟨rfl, rfl⟩ := trodVars_none hV
  obtain ⟨n0, rfl⟩ := okWide_int Try.underlying3 (hval 0 3 v0 rfl rfl)
  obtain ⟨a1, n1, c1, rfl⟩ := okWide_slice Try.underlying27 (hval 1 27 v1 rfl rfl)
  obtain ⟨a2, n2, c2, rfl⟩ := okWide_slice Try.underlying25 (hval 2 25 v2 rfl rfl)
  obtain ⟨a3, n3, c3, rfl⟩ := okWide_slice Try.underlying27 (hval 3 27 v3 rfl rfl)
  have lt0 : ∀ x ∈ p0, x.block < W.heap.size := by obtain ⟨m, hm⟩ := h0; exact DataW.trod_lt m _ _ _ hm
  have lt1 : ∀ x ∈ p1, x.block < W.heap.size := by obtain ⟨m, hm⟩ := h1; exact DataW.trod_lt m _ _ _ hm
  have lt2 : ∀ x ∈ p2, x.block < W.heap.size := by obtain ⟨m, hm⟩ := h2; exact DataW.trod_lt m _ _ _ hm
  have lt3 : ∀ x ∈ p3, x.block < W.heap.size := by obtain ⟨m, hm⟩ := h3; exact DataW.trod_lt m _ _ _ hm
  have w0 : -9223372036854775808 ≤ n0 ∧ n0 ≤ 9223372036854775807 := by obtain ⟨m, hm⟩ := h0; exact wf_i64 Try.underlying3 hm
  obtain ⟨l1, w1⟩ := arg_ints h1
  obtain ⟨l2, w2⟩ := arg_deeds h2
  obtain ⟨l3, w3⟩ := arg_ints h3
  clear hA0 hval0
  refine (handsOrder_walk n0 l1 l2 l3 _ _ _ W w0 w1 w2 w3).mono fun e W' ⟨he, bel⟩ => ?_
  subst he
  exact ⟨_, rfl, _, _, _, [], _, [], hW', trodAll_mk1 (shut_bool Try.underlying4 _), (trodAll_cons_mk (Below.trod laidOut (by kernel_rfl) (of_decide_eq_true (by kernel_rfl)) h0 bel lt0) (trodAll_cons_mk (Below.trod laidOut (by kernel_rfl) (of_decide_eq_true (by kernel_rfl)) h1 bel lt1) (trodAll_cons_mk (Below.trod laidOut (by kernel_rfl) (of_decide_eq_true (by kernel_rfl)) h2 bel lt2) (trodAll_cons_mk (Below.trod laidOut (by kernel_rfl) (of_decide_eq_true (by kernel_rfl)) h3 bel lt3) trodAll_mk0)))), rfl, bel.frame _, fun h => by cases h⟩

set_option maxRecDepth 100000 in
set_option maxHeartbeats 8000000 in
theorem handsOrder_closed : joinedFacts Try.checked.prog 8 Try.f8 Rows.handsOrderSpec Rows.handsOrderRow = true := by
  unfold joinedFacts
  repeat' (with_reducible refine and_true_of ?_ ?_)
  all_goals (as_aux_lemma => kernel_rfl)
theorem handsOrder_over : Rows.handsOrderRow.holds Try.pinned (OpenSpec.ofChange Rows.handsOrderSpec) :=
  OpenClaim.holds_of_wide 8 Try.f8 rfl rfl rfl rfl rfl rfl rfl ⟨rfl, rfl, rfl, rfl, rfl⟩ rfl rfl rfl rfl rfl (by as_aux_lemma => kernel_rfl) Try.func8 handsOrder_closed
    (of_decide_eq_true (by as_aux_lemma => kernel_rfl)) (by as_aux_lemma => unfold Func.isWrapper; first | (rw [if_pos (by decide +kernel)]; kernel_rfl) | (rw [if_neg (by decide +kernel)]; exact ⟨rfl, rfl⟩))
    (fun os started H enc _ => handsOrder_lifted os started H enc)
theorem handsOrder_proved : Rows.HandsOrderSaid := handsOrder_over
#print axioms handsOrder_proved
end Go.Proofs.Ytoihdnekkgpcoaa
