/-
  An argument that is a slice of slices of deeds, or a deed, opened. Conditions: none.
  Ten sums in an array; how often keys came and went; what Run answers of a sound way. Conditions: as each theorem says.
  hedgkeep.HandsCount: it answers true. Conditions: the lists read as they are named (RD, RDS).
  hedgkeep.HandsCount: THE STATEMENT: for every input it answers true. Conditions: none.
-/
import Derived.Test.YtoihdnekkgpcoaaG1
import Derived.Test.YtoihdnekkgpcoaaG6
import Derived.Test.YtoihdnekkgpcoaaG5
import Derived.Test.YtoihdnekkgpcoaaG16

namespace Go.Proofs.Ytoihdnekkgpcoaa
open Go.ChangeShapes Go.WideShapes Go.ChangeAt Go.RowKit Go.Deep
set_option linter.unusedVariables false
set_option linter.unusedSimpArgs false

theorem RD.dd {w : World} {v : Value} {l : List IP} (h : RD w ePair v l) : RD w eDeed v (l.map fun p => (⟨p.1, p.2⟩ : Dd)) := by
  obtain ⟨A, c, rfl, h1, h2, h3, h4⟩ := h
  refine ⟨A, c, by simp, by simpa using h1, h2, h3, fun h0 => ?_⟩
  simp only [List.length_map] at h0
  obtain ⟨b, o, rfl, hb, hc⟩ := h4 h0
  refine ⟨b, o, rfl, hb, fun k hk j hj => ?_⟩
  simp only [List.length_map] at hk
  have := hc k hk j hj
  simp only [List.getElem_map]
  exact this
section
variable {H : Type} {enc : TypeId × Value → H} {P : Program} {w : World} {base : Nat} {spare : Nat → Bool} {held : Bool}
theorem rd_deeds {t e d : TypeId} {f0 f1 : Field} {fuel : Nat} {cs : List Value} {x : DataW H × List MemPlace} (ht : P.underlying t = some (.slice e)) (hC1 : P.cellsOf e = 1) (he : P.underlying e = some (.slice d)) (hd : P.underlying d = some (.struct #[f0, f1]))
    (hone : oneCellFields P #[f0, f1] = true) (hC : P.cellsOf d = 2) (h0 : P.underlying f0.type = some (.int .i64)) (h1 : P.underlying f1.type = some (.int .i64)) (h : DataW.trod enc P w base spare held fuel t cs = some x) :
    ∃ v, cs = [v] ∧ ∃ ls : List (List Dd), RDS w eDeed v ls := by
  rcases open_slice1 ht hC1 h with ⟨rfl, _⟩ | ⟨a, len, cap, m, n, V, D, Pl, rfl, hb, hl, hm, hmm, _, hf⟩
  · exact ⟨_, rfl, [], none, 0, rfl, Nat.le_refl _, by decide, fun h => absurd h (Nat.lt_irrefl _)⟩
  · refine ⟨_, rfl, ?_⟩
    have hlm : len ≤ m := by rw [hmm]; split <;> omega
    have hq : ∀ i, ∃ l : List Dd, i < len → w.cell? (a.add i) = some (V i) ∧ RD w eDeed (V i) l := by
      intro i
      by_cases hi : i < len
      · obtain ⟨hc, ht2⟩ := hf i (by omega)
        obtain ⟨v, hv, l, hr⟩ := rd_pairs he hd hone hC h0 h1 ht2
        injection hv with hv _
        subst hv
        exact ⟨_, fun _ => ⟨hc, hr.dd⟩⟩
      · exact ⟨[], fun h => absurd h hi⟩
    obtain ⟨f, hf2⟩ := Classical.axiomOfChoice hq
    refine ⟨(List.range len).map f, some a, cap, by simp, by simpa using hl, hm, fun hpos => ?_⟩
    simp only [List.length_map, List.length_range] at hpos
    obtain ⟨c0, _⟩ := hf2 0 hpos
    have ha0 : a.add 0 = a := by simp [Addr.add]
    rw [ha0] at c0
    obtain ⟨b, o, sp⟩ := a
    have hsp : sp = none := World.cell?_spot c0
    subst hsp
    refine ⟨b, o, rfl, World.block_lt_of_cell? w _ c0, fun k hk => ?_⟩
    simp only [List.length_map, List.length_range] at hk
    obtain ⟨d0, d1⟩ := hf2 k hk
    have hadd : ∀ i, (⟨b, o, none⟩ : Addr).add i = ⟨b, o + i, none⟩ := fun i => by unfold Addr.add; split <;> simp_all
    rw [hadd] at d0
    refine ⟨_, d0, ?_⟩
    simp only [List.getElem_map, List.getElem_range]
    exact d1
theorem rd_two {r : Reach} {b0 : Nat} {t : TypeId} {f0 f1 : Field} {v : Value} {d : DataW H} {p : List MemPlace} (hs : P.underlying t = some (.struct #[f0, f1])) (hone : oneCellFields P #[f0, f1] = true) (hC : P.cellsOf t = 2)
    (h0 : P.underlying f0.type = some (.int .i64)) (h1 : P.underlying f1.type = some (.int .i64)) (hv : Value.okWide P w r b0 t v) (h : DataW.Trod enc P w base spare held t v d p) :
    ∃ a b : Int, v = .agg #[.int .i64 a, .int .i64 b] := by
  obtain ⟨v0, v1, y0, y1, n, rfl, _, _, t0, t1⟩ := Go.Joins.open_agg2 hs hone hC hv h
  obtain ⟨n0, e0, _⟩ := DataW.trod_int h0 t0
  obtain ⟨n1, e1, _⟩ := DataW.trod_int h1 t1
  injection e0 with e0
  injection e1 with e1
  subst e0 e1
  exact ⟨_, _, rfl⟩
end
section
variable {H : Type} {enc : TypeId × Value → H} {w : World} {base : Nat} {spare : Nat → Bool} {held : Bool} {a0 : Option Addr} {n c : Nat} {d : DataW H} {p : List MemPlace}
set_option maxRecDepth 100000 in
theorem arg_deeds (h : DataW.Trod enc Try.prog w base spare held 25 (.slice a0 n c) d p) : ∃ ls, RDS w eDeed (.slice a0 n c) ls := by
  obtain ⟨fuel, hf⟩ := h
  obtain ⟨v, hv, l, hl⟩ := rd_deeds Try.underlying25 (by kernel_rfl) Try.underlying24 Try.underlying23 (by kernel_rfl) (by kernel_rfl) Try.underlying3 Try.underlying3 hf
  simp [Value.cells] at hv
  subst hv
  exact ⟨l, hl⟩
set_option maxRecDepth 100000 in
theorem arg_deed {r : Reach} {b0 : Nat} {v : Value} (hv : Value.okWide Try.prog w r b0 23 v) (h : DataW.Trod enc Try.prog w base spare held 23 v d p) : ∃ x y : Int, v = .agg #[.int .i64 x, .int .i64 y] :=
  rd_two Try.underlying23 (by kernel_rfl) (by kernel_rfl) Try.underlying3 Try.underlying3 hv h
end
end Go.Proofs.Ytoihdnekkgpcoaa
namespace Go.Proofs.Ytoihdnekkgpcoaa
open Go.ChangeShapes Go.WideShapes Go.ChangeAt Go.RowKit
set_option linter.unusedVariables false
set_option linter.unusedSimpArgs false

def smC (f : Int → Int) : List Value := [.int .i64 (f 0), .int .i64 (f 1), .int .i64 (f 2), .int .i64 (f 3), .int .i64 (f 4), .int .i64 (f 5), .int .i64 (f 6), .int .i64 (f 7), .int .i64 (f 8), .int .i64 (f 9)]
theorem smC_eq (f : Int → Int) : smC f = (List.range 10).map (fun i : Nat => Value.int .i64 (f (i : Int))) := rfl
theorem smC_get (f : Int → Int) {k : Nat} (h : k ≤ 9) : (smC f)[k]? = some (.int .i64 (f k)) := by
  rw [smC_eq]; simp [show k < 10 by omega]
theorem smC_set (f g : Int → Int) (k : Nat) (hk : k ≤ 9) (v : Int) (h1 : g k = v) (h2 : ∀ x : Int, x ≠ k → g x = f x) : (smC f).set k (.int .i64 v) = smC g := by
  rw [smC_eq, smC_eq]
  apply List.ext_getElem?
  intro j
  simp only [List.getElem?_set, List.getElem?_map, List.length_map, List.length_range]
  by_cases e : k = j
  · subst e; simp [show k < 10 by omega, h1]
  · by_cases hj : j < 10
    · simp [e, hj, h2 (j : Int) (by omega)]
    · simp [e, hj]
theorem smC_zero (f : Int → Int) (h : ∀ x, 0 ≤ x → x ≤ 9 → f x = 0) : smC f = [.int .i64 0, .int .i64 0, .int .i64 0, .int .i64 0, .int .i64 0, .int .i64 0, .int .i64 0, .int .i64 0, .int .i64 0, .int .i64 0] := by
  unfold smC
  rw [h 0 (by decide) (by decide), h 1 (by decide) (by decide), h 2 (by decide) (by decide), h 3 (by decide) (by decide), h 4 (by decide) (by decide), h 5 (by decide) (by decide), h 6 (by decide) (by decide), h 7 (by decide) (by decide), h 8 (by decide) (by decide), h 9 (by decide) (by decide)]
/-- How often is it there? -/
def cnI (l : List Int) (x : Int) : Int := (l.map (fun y => if y = x then (1 : Int) else 0)).sum
theorem sum_bd : ∀ l : List Int, (∀ x ∈ l, -1 ≤ x ∧ x ≤ 1) → -(l.length : Int) ≤ l.sum ∧ l.sum ≤ l.length
  | [], _ => by simp
  | a :: t, h => by
    have h1 := h a (by simp)
    have h2 := sum_bd t fun x hx => h x (by simp [hx])
    simp only [List.sum_cons, List.length_cons]
    omega
theorem cnI_bd (l : List Int) (x : Int) : 0 ≤ cnI l x ∧ cnI l x ≤ l.length := by
  unfold cnI
  induction l with
  | nil => simp
  | cons a t ih =>
    simp only [List.map_cons, List.sum_cons, List.length_cons]
    split <;> omega
theorem cnI_take {l : List Int} {j : Nat} (h : j < l.length) (x : Int) : cnI (l.take (j + 1)) x = cnI (l.take j) x + (if l[j] = x then 1 else 0) := by
  unfold cnI
  rw [List.take_succ_eq_append_getElem h, List.map_append, List.sum_append]
  simp
def chI (P : List (List Dd)) (D : List (Nat × Nat × Dn)) (x : Int) : Int := (D.map (chg (dd P) x)).sum
theorem chI_bd (P : List (List Dd)) (D : List (Nat × Nat × Dn)) (x : Int) : -(D.length : Int) ≤ chI P D x ∧ chI P D x ≤ D.length := by
  have := sum_bd (D.map (chg (dd P) x)) (by
    intro y hy
    rw [List.mem_map] at hy
    obtain ⟨z, _, rfl⟩ := hy
    unfold chg
    split
    · split
      · omega
      · split <;> omega
    · omega)
  simpa [chI] using this
theorem chI_take {P : List (List Dd)} {D : List (Nat × Nat × Dn)} {j : Nat} (h : j < D.length) (x : Int) : chI P (D.take (j + 1)) x = chI P (D.take j) x + chg (dd P) x D[j] := by
  unfold chI
  rw [List.take_succ_eq_append_getElem h, List.map_append, List.sum_append]
  simp
theorem doneL_len {s : St} (h : ∀ i, (s.told i).length ≤ 4) : ∀ n, (doneL s n).length ≤ 4 * n := by
  intro n
  unfold doneL
  induction n with
  | zero => simp
  | succ n ih =>
    rw [List.range_succ, List.flatMap_append, List.length_append]
    have := h n
    simp only [List.flatMap_cons, List.flatMap_nil, List.append_nil, List.length_mapIdx]
    omega
theorem OkIn.len10s {l : List Int} {P : List (List Dd)} (ok : OkIn l P) : l.length ≤ 10 := by
  have h1 := (mm0_MW l ok.keys ok.sort)
  have hk : ∀ i (h : i < l.length), (mm0 l).ky (i + 1) = l[i] := fun i h => by simp [mm0, h]
  have key : ∀ i, i < l.length → (i : Int) ≤ (mm0 l).ky (i + 1) := by
    intro i
    induction i with
    | zero => intro hi; have := ok.keys _ (List.getElem_mem hi); rw [hk 0 hi]; omega
    | succ i ih =>
      intro hi
      have h2 := ih (by omega)
      have h4 : (mm0 l).nx (i + 1) = i + 1 + 1 := by simp [mm0]; omega
      have h3 := h1.ri (i + 1) (by show i + 1 < l.length + 2; omega) (by rw [hk i (by omega)]; have := (ok.keys _ (List.getElem_mem (show i < l.length by omega))).2; omega)
      rw [h4] at h3
      omega
  by_cases h0 : l.length = 0
  · omega
  · have h2 := key (l.length - 1) (by omega)
    rw [hk _ (by omega)] at h2
    have := (ok.keys _ (List.getElem_mem (show l.length - 1 < l.length by omega))).2
    omega
/-- What Run answers of a sound way. -/
def RunSd (l : List Int) (P : List (List Dd)) (w : World) (e : Ending) (w' : World) : Prop :=
  ∃ (s : St) (D : List (Nat × Nat × Dn)) (lf : List Int) (vd vl : Value), e = .returned (.tuple #[.agg #[vd, vl], .int .i64 0]) ∧ RD w' eDone vd D ∧ RD w' eInt vl lf ∧ Kp w w' ∧ Sound l P s ∧ D = doneL s P.length ∧ lf = leftM s.m ∧ D.length ≤ 16
theorem run_sd {l : List Int} {P : List (List Dd)} {o : List Int} {algo : Int} {vl vp vo : Value} {w : World} (hl : RD w eInt vl l) (hp : RDS w eDeed vp P) (ho : RD w eInt vo o) (hr : rgF algo l P o.length = 0) (h4 : algo ≠ 4) : Calls Try.prog 9 #[.int .i64 algo, vl, vp, vo] w (RunSd l P w) := by
  obtain ⟨h14, h5, ok⟩ := rgF_ok hr
  obtain ⟨alg, rfl⟩ : ∃ alg : Nat, algo = (alg : Int) := ⟨algo.toNat, by omega⟩
  refine (hrun_any alg l P o vl vp vo w hl hp ho hr).mono ?_
  rintro e w' ⟨s, vd, vl, rfl, hf, h1, h2, hk⟩
  obtain ⟨hs, _⟩ := all_sound ok alg (by omega) o h5 s hf
  refine ⟨s, _, _, vd, vl, rfl, h1, h2, hk, hs, rfl, rfl, ?_⟩
  have hlen : ∀ i, (s.told i).length ≤ 4 := fun i => by rw [hs.2.2.1 i]; exact ok.ndl i
  have := doneL_len hlen P.length
  have := ok.len
  omega
theorem Sound.at_ {l : List Int} {P : List (List Dd)} {s : St} (h : Sound l P s) {x : Nat × Nat × Dn} (hx : x ∈ doneL s P.length) : ∃ (h1 : x.1 < P.length) (h2 : x.2.1 < (P[x.1]'h1).length), dd P x.1 x.2.1 = (P[x.1]'h1)[x.2.1]'h2 := by
  rw [mem_doneL] at hx
  obtain ⟨h1, hx2⟩ := hx
  obtain ⟨h3, _⟩ := List.getElem?_eq_some_iff.1 hx2
  rw [h.2.2.1] at h3
  have e : ndl P x.1 = (P[x.1]'h1).length := by unfold ndl; simp [h1]
  refine ⟨h1, by omega, ?_⟩
  unfold dd
  simp [h1, show x.2.1 < (P[x.1]'h1).length by omega]
end Go.Proofs.Ytoihdnekkgpcoaa
namespace Go.Proofs.Ytoihdnekkgpcoaa
open Go.ChangeShapes Go.WideShapes Go.ChangeAt Go.RowKit
set_option linter.unusedVariables false
set_option linter.unusedSimpArgs false

theorem lives_kpC (w : World) : Calls Try.prog 10 #[] w (fun e w' => e = .returned (.bool true) ∧ Kp w w') := (hlives_any w).mono fun e w' h => ⟨h.1, Kp.of h.2⟩
def CtA (l : List Int) (S : Nat) (W0 : World) (iv : Value) (wx : World) : Prop := ∃ j : Nat, j ≤ l.length ∧ iv = .int .i64 j ∧ BC wx S 36 (smC (cnI (l.take j))) ∧ Kp W0 wx
def fB (l : List Int) (P : List (List Dd)) (D : List (Nat × Nat × Dn)) (j : Nat) : Int → Int := fun x => cnI l x + chI P (D.take j) x
def CtB (l : List Int) (P : List (List Dd)) (D : List (Nat × Nat × Dn)) (S : Nat) (W0 : World) (iv : Value) (wx : World) : Prop := ∃ j : Nat, j ≤ D.length ∧ iv = .int .i64 j ∧ BC wx S 36 (smC (fB l P D j)) ∧ Kp W0 wx
def fC (l : List Int) (P : List (List Dd)) (D : List (Nat × Nat × Dn)) (lf : List Int) (j : Nat) : Int → Int := fun x => cnI l x + chI P D x - cnI (lf.take j) x
def CtC (l : List Int) (P : List (List Dd)) (D : List (Nat × Nat × Dn)) (lf : List Int) (S : Nat) (W0 : World) (lv iv : Value) (wx : World) : Prop :=
  ∃ (j : Nat) (la : Int), j ≤ lf.length ∧ iv = .int .i64 j ∧ lv = .int .i64 la ∧ (la = if j = 0 then -1 else lf.getD (j - 1) 0) ∧ BC wx S 36 (smC (fC l P D lf j)) ∧ Kp W0 wx
theorem run_eq10 (w : World) : (binOp .eql 36 (.agg #[.int .i64 0, .int .i64 0, .int .i64 0, .int .i64 0, .int .i64 0, .int .i64 0, .int .i64 0, .int .i64 0, .int .i64 0, .int .i64 0]) (.agg #[.int .i64 0, .int .i64 0, .int .i64 0, .int .i64 0, .int .i64 0, .int .i64 0, .int .i64 0, .int .i64 0, .int .i64 0, .int .i64 0])).run Try.prog w = .ok (.bool true) w := by kernel_rfl
set_option maxRecDepth 100000 in
set_option maxHeartbeats 8000000 in
theorem handsCount_walk (algo : Int) (l : List Int) (P : List (List Dd)) (o : List Int) (vl vp vo : Value) (w : World) (hn : -9223372036854775808 ≤ algo ∧ algo ≤ 9223372036854775807) (hl : RD w eInt vl l) (hp : RDS w eDeed vp P) (ho : RD w eInt vo o) :
    Calls Try.prog 4 #[.int .i64 algo, vl, vp, vo] w (Ret (.bool true) w) := by
  by_cases hr : rgF algo l P o.length = 0
  · by_cases h4 : algo = 4
    · subst h4
      have HRun : Hid (Calls Try.prog 9 #[.int .i64 4, vl, vp, vo] w (fun e w' => ∃ (a b : Option Addr) (n c m d : Nat), e = .returned (.tuple #[.agg #[.slice a n c, .slice b m d], .int .i64 0]) ∧ Kp w w')) := hide ((hrun_any 4 l P o vl vp vo w hl hp ho hr).mono (by
        rintro e w' ⟨s, vd, vf, rfl, _, h1, h2, hk⟩
        obtain ⟨a, n, c, rfl⟩ := h1.slice
        obtain ⟨b, m, d, rfl⟩ := h2.slice
        exact ⟨a, b, n, c, m, d, rfl, hk⟩))
      obtain ⟨A1, c1, rfl, hc1, _⟩ := hl.shape
      obtain ⟨A2, c2, rfl, hc2, _⟩ := hp.shape
      obtain ⟨A3, c3, rfl, hc3, _⟩ := ho.shape
      clear hl hp ho hr hn
      go_enter Try.func4, Try.ntmps4
      go_wp2_with fail
      refine HRun.out.mono ?_
      rintro e w1 ⟨xa, xb, xn, xc, xm, xd, rfl, hk1⟩
      have HK1 := hide hk1
      clear hk1 HRun
      go_wp2_with fail
      refine (lives_kpC _).mono ?_
      rintro e w2 ⟨rfl, hk2⟩
      have HK2 := hide (HK1.out.trans ((Kp.refl w1).alloc.trans hk2))
      clear hk2
      go_wp2_with fail
      refine (lives_kpC _).mono ?_
      rintro e w3 ⟨rfl, hk3⟩
      have HK3 := hide (HK2.out.trans hk3)
      clear hk3
      go_wp2
      go_ret
      exact ⟨rfl, HK3.out.bel⟩
    · have HRun := hide (run_sd hl hp ho hr h4)
      obtain ⟨_, _, ok⟩ := rgF_ok hr
      have HOK := hide ok
      have hl10 : l.length ≤ 10 := ok.len10s
      have d4 : (algo == 4) = false := beq_eq_false_iff_ne.2 h4
      obtain ⟨A1, c1, rfl, hc1, _⟩ := hl.shape
      obtain ⟨A2, c2, rfl, hc2, _⟩ := hp.shape
      obtain ⟨A3, c3, rfl, hc3, _⟩ := ho.shape
      have HL := hide hl
      have HP := hide hp
      clear hl hp ho hr hn h4 ok
      go_enter Try.func4, Try.ntmps4
      go_wp2_with fail
      refine HRun.out.mono ?_
      rintro e w1 ⟨s, D, lf, vd, vf, rfl, hd, hlf, hk1, hs, hD, hL, hD16⟩
      obtain ⟨dA, dC, rfl, hdc, _⟩ := hd.shape
      obtain ⟨lA, lC, rfl, hlc, _⟩ := hlf.shape
      have HD := hide hd
      have HLF := hide hlf
      have HK1 := hide hk1
      have HAT : Hid (∀ x ∈ D, ∃ (h1 : x.1 < P.length) (h2 : x.2.1 < (P[x.1]'h1).length), dd P x.1 x.2.1 = (P[x.1]'h1)[x.2.1]'h2) := hide (fun x hx => hs.at_ (by rw [← hD]; exact hx))
      have HOKD : Hid (∀ i e, okD (dd P i e)) := hide (dd_ok HOK.out.deeds)
      obtain ⟨q1, q2, _⟩ := leftM_spec s.m hs.1
      have HLS : Hid (lf.Pairwise (· < ·) ∧ (∀ x ∈ lf, 0 ≤ x ∧ x ≤ 9) ∧ lf.length ≤ 12) := hide (by rw [hL]; exact ⟨q1, q2, leftF_len _ _ _⟩)
      have HSM : Hid (∀ x, 0 ≤ x → x ≤ 9 → cnI l x + chI P D x = cnI lf x) := hide (fun x h1 h2 => by
        have := hs.count HOK.out x ⟨h1, h2⟩
        rw [hD, hL]; exact this)
      clear hd hlf hk1 HRun hs hD hL q1 q2
      go_wp2_with fail
      have hq : BC (w1.alloc (.cells #[.slice dA D.length dC, .slice lA lf.length lC] 29)) w1.heap.size 29 [.slice dA D.length dC, .slice lA lf.length lC] := BC.new _ _ _
      refine (lives_kpC _).mono ?_
      rintro e w2 ⟨rfl, hk2⟩
      have hq2 := hq.kp hk2
      have HQ := hide hq2
      have HK2 := hide (HK1.out.trans ((Kp.refl w1).alloc.trans hk2))
      have HD2 := hide (HD.out.kp ((Kp.refl w1).alloc.trans hk2))
      have HLF2 := hide (HLF.out.kp ((Kp.refl w1).alloc.trans hk2))
      obtain ⟨Z, hZ⟩ : ∃ Z, Z = w1.heap.size := ⟨_, rfl⟩
      rw [← hZ] at HQ ⊢
      clear hq hq2 hk2 hZ HD HLF
      go_wp2
      have HST : Hid (CtA l w2.heap.size w2 (.int .i64 0) (w2.alloc (.cells #[.int .i64 0, .int .i64 0, .int .i64 0, .int .i64 0, .int .i64 0, .int .i64 0, .int .i64 0, .int .i64 0, .int .i64 0, .int .i64 0] 36))) := hide ⟨0, Nat.zero_le _, rfl, BC.new w2 36 (smC (cnI [])), (Kp.refl w2).alloc⟩
      have hSz : w2.heap.size ≤ w2.heap.size := Nat.le_refl _
      obtain ⟨S, hS⟩ : ∃ S, S = w2.heap.size := ⟨_, rfl⟩
      rw [← hS] at HST ⊢
      have HSZ : Hid (w2.heap.size ≤ S) := hide (by omega)
      clear hSz hS
      go_loopw [41] (fun iv wx => CtA l S w2 iv wx) (fun iv _ => l.length - (intOf iv).toNat)
      case atStart => exact HST.out
      case round =>
        obtain ⟨j, hj, rfl, hb, hkp⟩ := hrel
        by_cases hjl : j < l.length
        · obtain ⟨b, oo, e, _, x0⟩ := (HL.out.kp (HK2.out.trans hkp)).int hjl
          cases e
          have hx9 := HOK.out.keys _ (List.getElem_mem hjl)
          have htk := cnI_take hjl
          have hbd := cnI_bd (l.take j) (l[j]'hjl)
          have hlt : (l.take j).length ≤ 10 := by rw [List.length_take]; omega
          obtain ⟨x, hx⟩ : ∃ x, x = l[j]'hjl := ⟨_, rfl⟩
          rw [← hx] at x0 hx9 htk hbd
          obtain ⟨k, rfl⟩ : ∃ k : Nat, x = (k : Int) := ⟨x.toNat, by omega⟩
          have hk9 : k ≤ 9 := by omega
          obtain ⟨V, hV⟩ : ∃ V, V = cnI (l.take j) k := ⟨_, rfl⟩
          have c0 : wr.cell? ⟨S, k, none⟩ = some (.int .i64 V) := by rw [hV]; exact (hb.cell k).trans (smC_get _ hk9)
          have f0 := hb.frozen k
          have s1 : IntKind.i64.wrap (V + 1) = V + 1 := IntWalk.i64_in _ (by omega)
          have HN : Hid (CtA l S w2 (.int .i64 ((j + 1 : Nat) : Int)) (wr.setCell ⟨S, k, none⟩ (.int .i64 (V + 1)))) := hide ⟨j + 1, hjl, rfl, by
            rw [← smC_set (cnI (l.take j)) (cnI (l.take (j + 1))) k hk9 (V + 1) (by rw [htk, if_pos rfl, hV]) (fun y hy => by rw [htk, if_neg (fun e => hy e.symm)]; omega)]
            exact hb.set, hkp.set (p := ⟨S, k, none⟩) HSZ.out _⟩
          have hk10 : (k : Int) < 10 := by omega
          have hjli : (j : Int) < (l.length : Int) := by omega
          have HJ := hide hjl
          clear hb hkp hx9 htk hbd hlt hx hV hjl
          go_wp2
          go_roundw
          case rel =>
            obtain ⟨k2, a1, a2, a3⟩ := HN.out
            exact ⟨k2, a1, by rw [← a2]; go_num, a3⟩
          case measure => simp [intOf]; have := HJ.out; omega
        · rw [List.take_of_length_le (by omega)] at hb
          have q0 : wr.cell? ⟨Z, 0, none⟩ = some (.slice dA D.length dC) := (HQ.out.kp hkp).cell 0
          have HST2 : Hid (CtB l P D S w2 (.int .i64 0) wr) := hide ⟨0, Nat.zero_le _, rfl, by
            have e : fB l P D 0 = cnI l := by funext x; simp [fB, chI]
            rw [e]; exact hb, hkp⟩
          clear hb hkp HST
          go_wp2
          go_loopw [54] (fun iv wx => CtB l P D S w2 iv wx) (fun iv _ => D.length - (intOf iv).toNat)
          case atStart => exact HST2.out
          case round =>
            obtain ⟨j2, hj2, rfl, hb, hkp⟩ := hrel
            by_cases hjl2 : j2 < D.length
            · obtain ⟨b, oo, e, _, x0, x1, x2, x3, x4⟩ := (HD2.out.kp hkp).done hjl2
              cases e
              have hat := HAT.out _ (List.getElem_mem hjl2)
              have htk := fun x => chI_take (P := P) hjl2 x
              obtain ⟨x, hx⟩ : ∃ x, x = D[j2]'hjl2 := ⟨_, rfl⟩
              rw [← hx] at x0 x1 x2 x3 x4 hat
              simp only [← hx] at htk
              obtain ⟨xa, xe, xb, xf, xi⟩ := x
              obtain ⟨h1, h2, h3⟩ := hat
              have hokd := HOKD.out xa xe
              simp only at x0 x1 x2 x3 x4 h1 h2 h3
              obtain ⟨pb, po, u, e, _, y0, hu⟩ := (HP.out.kp (HK2.out.trans hkp)).at_ h1
              cases e
              obtain ⟨uA, uC, rfl, huc, _⟩ := hu.shape
              obtain ⟨ub, uo, e, _, z0, z1⟩ := hu.deed h2
              cases e
              have hxl : (xa : Int) < (P.length : Int) := by omega
              have hel : (xe : Int) < ((P[xa]'h1).length : Int) := by omega
              obtain ⟨nU, hnU⟩ : ∃ n, n = (P[xa]'h1).length := ⟨_, rfl⟩
              rw [← h3] at z0 z1
              rw [← hnU] at y0 hel huc
              obtain ⟨dq, hdq⟩ : ∃ dq, dq = dd P xa xe := ⟨_, rfl⟩
              have hchg : ∀ y, chg (dd P) y (xa, xe, ⟨xb, xf, xi⟩) = if xi = true ∧ dq.key = y then (if dq.kind = 1 then 1 else if dq.kind = 2 then -1 else 0) else 0 := fun y => by rw [hdq]; rfl
              rw [← hdq] at z0 z1 hokd
              obtain ⟨kd, ky⟩ := dq
              obtain ⟨k, hky⟩ : ∃ k : Nat, ky = (k : Int) := ⟨ky.toNat, by have := hokd.1; simp only at this; omega⟩
              subst hky
              have hk9 : k ≤ 9 := by have := hokd.2.1; simp only at this; omega
              have hkd := hokd.2.2
              simp only at z0 z1 hchg hkd
              obtain ⟨V, hV⟩ : ∃ V, V = fB l P D j2 k := ⟨_, rfl⟩
              have hVb : -100 ≤ V ∧ V ≤ 100 := by
                have h5 := cnI_bd l k
                have h6 := chI_bd P (D.take j2) k
                have h7 : (D.take j2).length ≤ 16 := by rw [List.length_take]; omega
                rw [hV]; unfold fB; omega
              have c0 : wr.cell? ⟨S, k, none⟩ = some (.int .i64 V) := by rw [hV]; exact (hb.cell k).trans (smC_get _ hk9)
              have s1 : IntKind.i64.wrap (V + 1) = V + 1 := IntWalk.i64_in _ (by omega)
              have s2 : IntKind.i64.wrap (V - 1) = V - 1 := IntWalk.i64_in _ (by omega)
              -- what is left behind: nothing changed, one more, one less
              have HN0 : Hid ((∀ y, chg (dd P) y (xa, xe, ⟨xb, xf, xi⟩) = 0) → ∀ W, Kp wr W → CtB l P D S w2 (.int .i64 ((j2 + 1 : Nat) : Int)) W) := hide (fun h W k => ⟨j2 + 1, hjl2, rfl, by
                have e : fB l P D (j2 + 1) = fB l P D j2 := by funext y; unfold fB; rw [htk, h]; omega
                rw [e]; exact hb.kp k, hkp.trans k⟩)
              have HNd : Hid (∀ V' : Int, (∀ y, chg (dd P) y (xa, xe, ⟨xb, xf, xi⟩) = if y = (k : Int) then V' - V else 0) → ∀ W, Kp wr W → CtB l P D S w2 (.int .i64 ((j2 + 1 : Nat) : Int)) (W.setCell ⟨S, k, none⟩ (.int .i64 V'))) := hide (fun V' h W kW => ⟨j2 + 1, hjl2, rfl, by
                rw [← smC_set (fB l P D j2) (fB l P D (j2 + 1)) k hk9 V' (by unfold fB at hV ⊢; rw [htk, h, if_pos rfl]; omega) (fun y hy => by unfold fB; rw [htk, h, if_neg hy]; omega)]
                exact (hb.kp kW).set, (hkp.trans kW).set (p := ⟨S, k, none⟩) HSZ.out _⟩)
              have hk10 : (k : Int) < 10 := by omega
              have hjli : (j2 : Int) < (D.length : Int) := by omega
              have HJ := hide hjl2
              have HF0 : Hid (∀ W, Kp wr W → W.cell? ⟨S, k, none⟩ = some (.int .i64 V) ∧ W.frozen? ⟨S, k, none⟩ = false) := hide (fun W kW => ⟨kW.cell c0, (hb.kp kW).frozen k⟩)
              have HBS := hide hb
              clear hb hkp hx htk hjl2 hu h3 hnU hdq hokd hV hVb
              go_wp2_with fail
              obtain ⟨w5, hw5⟩ : ∃ w5, w5 = wr.alloc (.cells #[.int .i64 xa, .int .i64 xe, .int .i64 xb, .int .i64 xf, .bool xi] 35) := ⟨_, rfl⟩
              have hbd : BC w5 wr.heap.size 35 [.int .i64 xa, .int .i64 xe, .int .i64 xb, .int .i64 xf, .bool xi] := by rw [hw5]; exact BC.new wr _ _
              have k5 : Kp wr w5 := by rw [hw5]; exact (Kp.refl wr).alloc
              rw [← hw5]
              have x0 : w5.cell? ⟨wr.heap.size, 0, none⟩ = some (.int .i64 xa) := hbd.cell 0
              have x1 : w5.cell? ⟨wr.heap.size, 1, none⟩ = some (.int .i64 xe) := hbd.cell 1
              have y0 := k5.cell y0
              have z0 := k5.cell z0
              have z1 := k5.cell z1
              have HBD := hide hbd
              have HK5 := hide k5
              obtain ⟨d0, hd0⟩ : ∃ d0, d0 = wr.heap.size := ⟨_, rfl⟩
              rw [← hd0] at x0 x1 HBD ⊢
              have ka : Kp w5 (w5.alloc (.cells #[.int .i64 0, .int .i64 0] 23)) := (Kp.refl w5).alloc
              have x0a := ka.cell x0
              have x1a := ka.cell x1
              have y0a := ka.cell y0
              have z0a := ka.cell z0
              have z1a := ka.cell z1
              clear hw5 hbd k5 hd0 c0 ka
              go_cut [16] from 58 to 66 (fun s16 wx => s16 = .pointer (some ⟨w5.heap.size, 0, none⟩) ∧ wx = (w5.alloc (.cells #[.int .i64 kd, .int .i64 k] 23)).drew)
              case first =>
                go_region_law (fail)
                all_goals
                  go_wp2_with fail
                  go_meet
                  exact ⟨rfl, rfl⟩
              case rest =>
                obtain ⟨rfl, hwc⟩ := hcut
                have hbe : BC wc w5.heap.size 23 [.int .i64 kd, .int .i64 k] := by rw [hwc]; exact BC.new w5 _ _
                have k6 : Kp w5 wc := by rw [hwc]; exact (Kp.refl w5).alloc.drew
                have hb6 := HBD.out.kp k6
                have e0 : wc.cell? ⟨w5.heap.size, 0, none⟩ = some (.int .i64 kd) := hbe.cell 0
                have e1 : wc.cell? ⟨w5.heap.size, 1, none⟩ = some (.int .i64 k) := hbe.cell 1
                have x4 : wc.cell? ⟨d0, 4, none⟩ = some (.bool xi) := hb6.cell 4
                have HKC := hide (HK5.out.trans k6)
                obtain ⟨c0, f0⟩ := HF0.out _ HKC.out
                have n1 : ¬ d0 = S := BC.ne hb6 (HBS.out.kp HKC.out) (by decide)
                have n2 : ¬ w5.heap.size = S := BC.ne hbe (HBS.out.kp HKC.out) (by decide)
                obtain ⟨d2, hd2⟩ : ∃ d2, d2 = w5.heap.size := ⟨_, rfl⟩
                rw [← hd2] at e0 e1 n2 ⊢
                clear hwc hbe k6 hb6 hd2 x0 x1 y0 z0 z1 x0a x1a y0a z0a z1a HF0
                have fin0 : ∀ W, CtB l P D S w2 (.int .i64 ((j2 + 1 : Nat) : Int)) W → ∃ k2 : Nat, k2 ≤ D.length ∧ Value.int .i64 ((j2 + 1 : Nat) : Int) = .int .i64 k2 ∧ BC W S 36 (smC (fB l P D k2)) ∧ Kp w2 W := fun W h => h
                have FIN := hide fin0
                clear fin0
                cases xi with
                | false =>
                  have HN := hide (HN0.out (fun y => by rw [hchg]; simp) _ HKC.out)
                  clear hchg HN0 HNd hkd
                  go_wp2
                  go_roundw
                  case rel =>
                    obtain ⟨k2, a1, a2, a3⟩ := FIN.out _ HN.out
                    exact ⟨k2, a1, by rw [← a2]; go_num, a3⟩
                  case measure => simp [intOf]; have := HJ.out; omega
                | true =>
                  rcases hkd with rfl | rfl | rfl
                  · have HN := hide (HNd.out (V + 1) (fun y => by
                      rw [hchg]
                      by_cases hy : y = (k : Int)
                      · subst hy; simp; omega
                      · rw [if_neg (fun hh => hy hh.2.symm), if_neg hy]) _ HKC.out)
                    clear hchg HN0 HNd
                    go_wp2
                    go_roundw
                    case rel =>
                      obtain ⟨k2, a1, a2, a3⟩ := FIN.out _ HN.out
                      exact ⟨k2, a1, by rw [← a2]; go_num, a3⟩
                    case measure => simp [intOf]; have := HJ.out; omega
                  · have HN := hide (HNd.out (V - 1) (fun y => by
                      rw [hchg]
                      by_cases hy : y = (k : Int)
                      · subst hy; simp; omega
                      · rw [if_neg (fun hh => hy hh.2.symm), if_neg hy]) _ HKC.out)
                    clear hchg HN0 HNd
                    go_wp2
                    go_roundw
                    case rel =>
                      obtain ⟨k2, a1, a2, a3⟩ := FIN.out _ HN.out
                      exact ⟨k2, a1, by rw [← a2]; go_num, a3⟩
                    case measure => simp [intOf]; have := HJ.out; omega
                  · have HN := hide (HN0.out (fun y => by rw [hchg]; simp) _ HKC.out)
                    clear hchg HN0 HNd
                    go_wp2
                    go_roundw
                    case rel =>
                      obtain ⟨k2, a1, a2, a3⟩ := FIN.out _ HN.out
                      exact ⟨k2, a1, by rw [← a2]; go_num, a3⟩
                    case measure => simp [intOf]; have := HJ.out; omega
            · have q1 : wr.cell? ⟨Z, 1, none⟩ = some (.slice lA lf.length lC) := (HQ.out.kp hkp).cell 1
              have HST3 : Hid (CtC l P D lf S w2 (.int .i64 (-1)) (.int .i64 0) wr) := hide ⟨0, -1, Nat.zero_le _, rfl, rfl, rfl, by
                have e : fC l P D lf 0 = fB l P D j2 := by funext x; unfold fC fB; rw [List.take_of_length_le (show D.length ≤ j2 by omega)]; simp [cnI]
                rw [e]; exact hb, hkp⟩
              clear hb hkp HST2
              go_wp2
              go_loopw [17, 97] (fun lv iv wx => CtC l P D lf S w2 lv iv wx) (fun _ iv _ => lf.length - (intOf iv).toNat)
              case atStart => exact HST3.out
              case round =>
                obtain ⟨j3, la, hj3, rfl, rfl, hla, hb, hkp⟩ := hrel
                by_cases hjl3 : j3 < lf.length
                · obtain ⟨b, oo, e, _, x0⟩ := (HLF2.out.kp hkp).int hjl3
                  cases e
                  have hx9 := HLS.out.2.1 _ (List.getElem_mem hjl3)
                  have htk := cnI_take hjl3
                  have hg : lf.getD j3 0 = lf[j3] := by simp [List.getD_eq_getElem?_getD, hjl3]
                  have hlx : la < lf[j3] := by
                    rw [hla]
                    split
                    · omega
                    · have := List.pairwise_iff_getElem.1 HLS.out.1 (j3 - 1) j3 (by omega) hjl3 (by omega)
                      rw [show lf.getD (j3 - 1) 0 = lf[j3 - 1]'(by omega) by simp [List.getD_eq_getElem?_getD, show j3 - 1 < lf.length by omega]]
                      exact this
                  obtain ⟨x, hx⟩ : ∃ x, x = lf[j3]'hjl3 := ⟨_, rfl⟩
                  rw [← hx] at x0 hx9 htk hg hlx
                  obtain ⟨k, rfl⟩ : ∃ k : Nat, x = (k : Int) := ⟨x.toNat, by omega⟩
                  have hk9 : k ≤ 9 := by omega
                  obtain ⟨V, hV⟩ : ∃ V, V = fC l P D lf j3 k := ⟨_, rfl⟩
                  have hVb : -100 ≤ V ∧ V ≤ 100 := by
                    have h5 := cnI_bd l k
                    have h6 := chI_bd P D k
                    have h7 := cnI_bd (lf.take j3) k
                    have h8 : (lf.take j3).length ≤ 12 := by rw [List.length_take]; have := HLS.out.2.2; omega
                    rw [hV]; unfold fC; omega
                  have c0 : wr.cell? ⟨S, k, none⟩ = some (.int .i64 V) := by rw [hV]; exact (hb.cell k).trans (smC_get _ hk9)
                  have f0 := hb.frozen k
                  have s1 : IntKind.i64.wrap (V - 1) = V - 1 := IntWalk.i64_in _ (by omega)
                  have d5 : decide ((k : Int) ≤ la) = false := decide_eq_false (by omega)
                  have d6 : decide ((9 : Int) < (k : Int)) = false := decide_eq_false (by omega)
                  have HN : Hid (CtC l P D lf S w2 (.int .i64 k) (.int .i64 ((j3 + 1 : Nat) : Int)) (wr.setCell ⟨S, k, none⟩ (.int .i64 (V - 1)))) := hide ⟨j3 + 1, k, hjl3, rfl, rfl, by rw [if_neg (Nat.succ_ne_zero _), Nat.add_sub_cancel, hg], by
                    rw [← smC_set (fC l P D lf j3) (fC l P D lf (j3 + 1)) k hk9 (V - 1) (by unfold fC at hV ⊢; rw [htk, if_pos rfl]; omega) (fun y hy => by unfold fC; rw [htk, if_neg (fun e => hy e.symm)]; omega)]
                    exact hb.set, hkp.set (p := ⟨S, k, none⟩) HSZ.out _⟩
                  have hk10 : (k : Int) < 10 := by omega
                  have hjli : (j3 : Int) < (lf.length : Int) := by omega
                  have HJ := hide hjl3
                  clear hb hkp hx9 htk hx hV hVb hjl3 hla hg hlx
                  go_wp2
                  go_roundw
                  case rel =>
                    obtain ⟨k2, la2, a1, a2, a3, a4, a5⟩ := HN.out
                    exact ⟨k2, la2, a1, by rw [← a2]; go_num, a3, a4, a5⟩
                  case measure => simp [intOf]; have := HJ.out; omega
                · have hz : BC wr S 36 [.int .i64 0, .int .i64 0, .int .i64 0, .int .i64 0, .int .i64 0, .int .i64 0, .int .i64 0, .int .i64 0, .int .i64 0, .int .i64 0] := by
                    rw [← smC_zero (fC l P D lf j3) (fun x h1 h2 => by unfold fC; rw [List.take_of_length_le (show lf.length ≤ j3 by omega)]; have := HSM.out x h1 h2; omega)]
                    exact hb
                  have x0 : wr.cell? ⟨S, 0, none⟩ = some (.int .i64 0) := hz.cell 0
                  have x1 : wr.cell? ⟨S, 1, none⟩ = some (.int .i64 0) := hz.cell 1
                  have x2 : wr.cell? ⟨S, 2, none⟩ = some (.int .i64 0) := hz.cell 2
                  have x3 : wr.cell? ⟨S, 3, none⟩ = some (.int .i64 0) := hz.cell 3
                  have x4 : wr.cell? ⟨S, 4, none⟩ = some (.int .i64 0) := hz.cell 4
                  have x5 : wr.cell? ⟨S, 5, none⟩ = some (.int .i64 0) := hz.cell 5
                  have x6 : wr.cell? ⟨S, 6, none⟩ = some (.int .i64 0) := hz.cell 6
                  have x7 : wr.cell? ⟨S, 7, none⟩ = some (.int .i64 0) := hz.cell 7
                  have x8 : wr.cell? ⟨S, 8, none⟩ = some (.int .i64 0) := hz.cell 8
                  have x9 : wr.cell? ⟨S, 9, none⟩ = some (.int .i64 0) := hz.cell 9
                  have HF := hide (HK2.out.trans hkp)
                  have hjli : ¬ (j3 : Int) < (lf.length : Int) := by omega
                  have qe := run_eq10
                  clear hb hz hkp hla hjl3
                  go_wp2
                  go_ret
                  exact ⟨rfl, HF.out.bel⟩
  · have HRun := hide (hrun_bad algo l P o vl vp vo w hl hp ho hr)
    obtain ⟨R, hR⟩ : ∃ R, R = rgF algo l P o.length := ⟨_, rfl⟩
    rw [← hR] at HRun hr
    have d1 : (R != 0) = true := by simpa using hr
    obtain ⟨A1, c1, rfl, hc1, _⟩ := hl.shape
    obtain ⟨A2, c2, rfl, hc2, _⟩ := hp.shape
    obtain ⟨A3, c3, rfl, hc3, _⟩ := ho.shape
    clear hl hp ho hr hR
    go_enter Try.func4, Try.ntmps4
    go_wp2_with fail
    refine HRun.out.mono ?_
    rintro e w1 ⟨rfl, hk1⟩
    have HK1 := hide hk1
    clear hk1 HRun
    go_wp2_with fail
    refine (lives_kpC _).mono ?_
    rintro e w2 ⟨rfl, hk2⟩
    have HK2 := hide (HK1.out.trans ((Kp.refl w1).alloc.trans hk2))
    clear hk2
    go_wp2_with fail
    refine (lives_kpC _).mono ?_
    rintro e w3 ⟨rfl, hk3⟩
    have HK3 := hide (HK2.out.trans hk3)
    clear hk3
    go_wp2
    go_ret
    exact ⟨rfl, HK3.out.bel⟩
end Go.Proofs.Ytoihdnekkgpcoaa
namespace Go.Proofs.Ytoihdnekkgpcoaa
open Go.ChangeShapes Go.WideShapes Go.ChangeAt Go.RowKit Go.Deep
set_option linter.unusedVariables false
set_option linter.unusedSimpArgs false

set_option maxRecDepth 100000 in
theorem handsCount_lifted (os : Os) (started : os.Started) (H : Type) (enc : TypeId × Value → H) :
    ReturnsInHanded {} Try.checked os 4 .any (Rows.handsCountSpec.pre6 enc Try.prog Try.f4 Rows.handsCountRow.domain false) (Rows.handsCountSpec.post enc Try.prog Try.f4 false true false false) := by
  refine returnsInHanded_of_change (C := Try.checked) own started (by kernel_rfl) Try.func4
    (ChangeSpec.witness6 (enc := enc) (C := Try.checked) false ⟨#[], #[.int .i64 0, .slice none 0 0, .slice none 0 0, .slice none 0 0], []⟩ 8 (by kernel_rfl) (by kernel_rfl) (by kernel_rfl) (by kernel_rfl)) ?_
  intro W base args ds gs before hval0 hW hcnd _
  have hval : ∀ (j : Nat) t v, Try.f4.params[j]? = some t → args[j]? = some v → Value.okWide Try.prog W .any base t v := hval0
  have hW' := hW
  obtain ⟨p, q, hA0, hV, rfl, hfz, hnd⟩ := hW
  have hA : DataW.TrodAll enc Try.prog W 0 (fun _ => true) true Try.f4.params.toList args.toList ds p := hA0
  rw [Try.params4] at hA hval
  obtain ⟨v0, vs0, d0, ds0, p0, q0, hargs, rfl, rfl, h0, r0⟩ := trodAll_cons hA
  obtain ⟨v1, vs1, d1, ds1, p1, q1, rfl, rfl, rfl, h1, r1⟩ := trodAll_cons r0
  obtain ⟨v2, vs2, d2, ds2, p2, q2, rfl, rfl, rfl, h2, r2⟩ := trodAll_cons r1
  obtain ⟨v3, vs3, d3, ds3, p3, q3, rfl, rfl, rfl, h3, r3⟩ := trodAll_cons r2
  obtain ⟨rfl, rfl, rfl⟩ := trodAll_nil r3
  obtain rfl : args = #[v0, v1, v2, v3] := by cases args; simp_all
  obtain ⟨rfl, rfl⟩ := trodVars_none hV
  obtain ⟨n0, rfl⟩ := okWide_int Try.underlying3 (hval 0 3 v0 rfl rfl)
  obtain ⟨a1, n1, c1, rfl⟩ := okWide_slice Try.underlying27 (hval 1 27 v1 rfl rfl)
  obtain ⟨a2, n2, c2, rfl⟩ := okWide_slice Try.underlying25 (hval 2 25 v2 rfl rfl)
  obtain ⟨a3, n3, c3, rfl⟩ := okWide_slice Try.underlying27 (hval 3 27 v3 rfl rfl)
  have lt0 : ∀ x ∈ p0, x.block < W.heap.size := by obtain ⟨m, hm⟩ := h0; exact DataW.trod_lt m _ _ _ hm
  have lt1 : ∀ x ∈ p1, x.block < W.heap.size := by obtain ⟨m, hm⟩ := h1; exact DataW.trod_lt m _ _ _ hm
  have lt2 : ∀ x ∈ p2, x.block < W.heap.size := by obtain ⟨m, hm⟩ := h2; exact DataW.trod_lt m _ _ _ hm
  have lt3 : ∀ x ∈ p3, x.block < W.heap.size := by obtain ⟨m, hm⟩ := h3; exact DataW.trod_lt m _ _ _ hm
  have w0 : -9223372036854775808 ≤ n0 ∧ n0 ≤ 9223372036854775807 := by obtain ⟨m, hm⟩ := h0; exact wf_i64 Try.underlying3 hm
  obtain ⟨l1, w1⟩ := arg_ints h1
  obtain ⟨l2, w2⟩ := arg_deeds h2
  obtain ⟨l3, w3⟩ := arg_ints h3
  clear hA0 hval0
  refine (handsCount_walk n0 l1 l2 l3 _ _ _ W w0 w1 w2 w3).mono fun e W' ⟨he, bel⟩ => ?_
  subst he
  exact ⟨_, rfl, _, _, _, [], _, [], hW', trodAll_mk1 (shut_bool Try.underlying4 _), (trodAll_cons_mk (Below.trod laidOut (by kernel_rfl) (of_decide_eq_true (by kernel_rfl)) h0 bel lt0) (trodAll_cons_mk (Below.trod laidOut (by kernel_rfl) (of_decide_eq_true (by kernel_rfl)) h1 bel lt1) (trodAll_cons_mk (Below.trod laidOut (by kernel_rfl) (of_decide_eq_true (by kernel_rfl)) h2 bel lt2) (trodAll_cons_mk (Below.trod laidOut (by kernel_rfl) (of_decide_eq_true (by kernel_rfl)) h3 bel lt3) trodAll_mk0)))), rfl, bel.frame _, fun h => by cases h⟩

set_option maxRecDepth 100000 in
set_option maxHeartbeats 8000000 in
theorem handsCount_closed : joinedFacts Try.checked.prog 4 Try.f4 Rows.handsCountSpec Rows.handsCountRow = true := by
  unfold joinedFacts
  repeat' (with_reducible refine and_true_of ?_ ?_)
  all_goals (as_aux_lemma => kernel_rfl)
theorem handsCount_over : Rows.handsCountRow.holds Try.pinned (OpenSpec.ofChange Rows.handsCountSpec) :=
  OpenClaim.holds_of_wide 4 Try.f4 rfl rfl rfl rfl rfl rfl rfl ⟨rfl, rfl, rfl, rfl, rfl⟩ rfl rfl rfl rfl rfl (by as_aux_lemma => kernel_rfl) Try.func4 handsCount_closed
    (of_decide_eq_true (by as_aux_lemma => kernel_rfl)) (by as_aux_lemma => unfold Func.isWrapper; first | (rw [if_pos (by decide +kernel)]; kernel_rfl) | (rw [if_neg (by decide +kernel)]; exact ⟨rfl, rfl⟩))
    (fun os started H enc _ => handsCount_lifted os started H enc)
theorem handsCount_proved : Rows.HandsCountSaid := handsCount_over
#print axioms handsCount_proved
end Go.Proofs.Ytoihdnekkgpcoaa
