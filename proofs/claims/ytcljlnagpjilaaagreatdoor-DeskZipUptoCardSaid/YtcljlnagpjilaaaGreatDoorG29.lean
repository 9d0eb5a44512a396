/-
  desk.ask: what it answers
-/
import Derived.Test.YtcljlnagpjilaaaGreatDoorG28

set_option linter.unusedVariables false
set_option linter.unusedSimpArgs false
set_option maxRecDepth 100000
set_option maxHeartbeats 8000000
namespace Go.Proofs.YtcljlnagpjilaaaGreatDoor
open Go.ChangeShapes Go.WideShapes Go.ChangeAt Go.RowKit
def oldB : By := [111, 108, 100]
def newB : By := [110, 101, 119]
def toldS (k : Int) (a : An) : By :=
 if k = 1 then (if a.is then oldB else newB) else if k = 6 then Lib.itoa a.val else if a.is = false then noneB else
 if k = 2 ∨ k = 3 then Lib.itoa a.val else wordsF [a.key, a.val] []
abbrev DkR := Except Int (List IP × List O3 × By)
def askO (l : List IP) (ops : List O3) (k key val : Int) : DkR :=
 if (doA l k key val).2.err = 0 then .ok ((doA l k key val).1, ops ++ [(k, key, val)], toldS k (doA l k key val).2) else .error (doA l k key val).2.err
def wAt (ws : List ByteArray) (i : Nat) : By := (ws.getD i ByteArray.empty).data.toList
def kOf (ws : List ByteArray) : Int := kindOf (ws.getD 0 ByteArray.empty)
def askW (l : List IP) (ops : List O3) (ws : List ByteArray) : DkR :=
 if kOf ws = 1 then
  if ws.length ≠ 3 then .error 1 else
  match numF (wAt ws 1) with
  | none => .error 1
  | some key => match numF (wAt ws 2) with
   | none => .error 1
   | some val => askO l ops 1 key val
 else
  if ws.length ≠ 2 then .error 1 else
  match numF (wAt ws 1) with
  | none => .error 1
  | some key => askO l ops (kOf ws) key 0
def LinePost (B d : Nat) (l : List IP) (ops : List O3) (r : DkR) (w : World) (e : Ending) (w' : World) : Prop :=
 KD B d w w' /\ match r with
  | .ok x => e = .returned (.string (bs x.2.2)) /\ DS w' B d x.1 x.2.1
  | .error k => e = slipE k /\ DS w' B d l ops
theorem ask_put (B d : Nat) (l : List IP) (ops : List O3) (ws : List ByteArray) (vw : Value) (w : World) (hds : DS w B d l ops) (hrw : RD w eStr vw ws) (hB : B <= w.heap.size) (hBd : B <= d) (ht : TT B w) (hol : ops.length <= 1000)
  (hss : ∀ s ∈ ws, s.size <= 9223372036854775807) (hk : kOf ws = 1) (h0 : ws ≠ [])
  (h64 : ∀ k key val, In64 [(doA l k key val).2.key, (doA l k key val).2.val]) :
  Calls Tryz.prog 37 #[.pointer (some ⟨d, 0, none⟩), vw] w (LinePost B d l ops (askW l ops ws) w) := by
 by_cases hl : ws.length = 3
 ·obtain ⟨s0, s1, s2, rfl⟩ : ∃ s0 s1 s2, ws = [s0, s1, s2] := by
   match ws, hl with
   | [a, b, c], _ => exact ⟨a, b, c, rfl⟩
  have hk' : kindOf s0 = 1 := hk
  have HA : Hid (askW l ops [s0, s1, s2] = match numF s1.data.toList with
   | none => .error 1
   | some key => match numF s2.data.toList with
    | none => .error 1
    | some val => askO l ops 1 key val) := hide (by rw [askW, if_pos hk]; rfl)
  obtain ⟨A, c, rfl, _, _⟩ := hrw.shape
  obtain ⟨b, o, rfl, _, x0⟩ := hrw.str (k := 0) (by simp)
  obtain ⟨_, _, e1, _, x1⟩ := hrw.str (k := 1) (by simp)
  injection e1 with e1
  injection e1 with e1 e2
  subst e1 e2
  obtain ⟨_, _, e1, _, x2⟩ := hrw.str (k := 2) (by simp)
  injection e1 with e1
  injection e1 with e1 e2
  subst e1 e2
  simp only [List.getElem_cons_zero, List.getElem_cons_succ, List.length_cons, List.length_nil, Nat.zero_add, Nat.add_zero, Nat.reduceAdd] at x0 x1 x2 ⊢
  have HX := hide (And.intro x0 (And.intro x1 x2))
  have HN1 := hide (fun W => number_any s1 W (hss s1 (by simp)))
  have HN2 := hide (fun W => number_any s2 W (hss s2 (by simp)))
  have HK : Hid (Calls Tryz.prog 36 #[.string s0] w (fun e w' => e = .returned (.tuple #[.int .i64 1, .int .i64 2]) /\ Kp w w')) := hide ((kind_any s0 w).mono (fun e w' h => by
   obtain ⟨h1, h2⟩ := h
   rw [hk', if_pos rfl] at h1
   exact ⟨h1, h2⟩))
  have HDS := hide hds
  obtain ⟨v, u, hb0, hv0, hu0⟩ := hds
  have HV := hide (And.intro hb0 (And.intro hv0 hu0))
  have HT := hide ht
  have HBD := hide hBd
  have HDL : Hid (d < w.heap.size) := hide hb0.lt
  have HB0 := hide hB
  have H64 := hide h64
  clear hb0 hv0 hu0 h64
  clear hrw hss hk hk' ht hl x1 x2 hBd
  go_enter Tryz.func37, Tryz.ntmps37
  go_wp2_with fail
  refine HK.out.mono ?_
  rintro e w1 ⟨rfl, hk1⟩
  have c1 := hk1.cell HX.out.2.1
  go_wp2_with fail
  refine (HN1.out _).mono ?_
  rintro e w2 ⟨he, hk2⟩
  have kk2 := hk1.trans hk2
  cases hn1 : numF s1.data.toList with
  | none =>
   rw [hn1] at he HA
   simp only at he
   subst he
   rw [slipE]
   clear c1 hn1
   go_wp2
   exact ⟨rfl, by rw [HA.out]; exact ⟨KD.of kk2 hB, rfl, HDS.out.kp kk2⟩⟩
  | some key =>
   rw [hn1] at he HA
   simp only at he HA
   subst he
   have c2 := kk2.cell HX.out.2.2
   clear c1 hn1
   obtain ⟨W2, hW2⟩ : ∃ W2, W2 = w2.alloc (.cells #[.int .i64 1, .int .i64 key, .int .i64 0] 82) := ⟨_, rfl⟩
   have c3 : (w2.alloc (.cells #[.int .i64 1, .int .i64 key, .int .i64 0] 82)).cell? ⟨b, o + 2, none⟩ = some (.string s2) := (Kp.refl w2).alloc.cell c2
   go_wp2_with fail
   rw [<- hW2]
   refine (HN2.out _).mono ?_
   rintro e w3 ⟨he, hk3⟩
   have hbc : BC w3 w2.heap.size 82 [.int .i64 1, .int .i64 key, .int .i64 0] := BC.kp (by rw [hW2]; exact BC.new w2 _ [.int .i64 1, .int .i64 key, .int .i64 0]) hk3
   have kk3 : Kp w w3 := (kk2.trans (by rw [hW2]; exact (Kp.refl w2).alloc)).trans hk3
   cases hn2 : numF s2.data.toList with
   | none =>
    rw [hn2] at he HA
    simp only at he
    subst he
    rw [slipE]
    clear c2 c3 hn2 hbc hW2
    go_wp2
    exact ⟨rfl, by rw [HA.out]; exact ⟨KD.of kk3 hB, rfl, HDS.out.kp kk3⟩⟩
   | some val =>
    rw [hn2] at he HA
    simp only at he HA
    subst he
    have hbc4 := hbc.set (j := 2) (u := .int .i64 val)
    simp only [List.set_cons_succ, List.set_cons_zero] at hbc4
    have kk4 : Kp w (w3.setCell ⟨w2.heap.size, 2, none⟩ (.int .i64 val)) := kk3.set (show w.heap.size <= w2.heap.size from kk2.size) _
    have HP0 : Hid (w.heap.size <= w2.heap.size) := hide kk2.size
    have c6 := hbc.cell 2
    have f6 := hbc.frozen 2
    obtain ⟨p, hp⟩ : ∃ p, p = w2.heap.size := ⟨_, rfl⟩
    rw [<- hp] at c6 f6 hbc4 kk4 hbc HP0 ⊢
    clear c2 c3 hn2 hW2 hbc hp
    obtain ⟨w6, hw6⟩ : ∃ w6, w6 = w3.setCell ⟨p, 2, none⟩ (.int .i64 val) := ⟨_, rfl⟩
    rw [<- hw6] at hbc4 kk4
    go_wp2_with fail
    rw [<- hw6]
    clear c6 f6 hw6 x0
    have HBC := hide hbc4
    have HC0 : Hid (w6.cell? ⟨d, 0, none⟩ = some v) := hide (kk4.cell (HV.out.1.cell 0))
    have HB : Hid (B <= w6.heap.size) := hide (Nat.le_trans HB0.out kk4.size)
    have HK4 := hide kk4
    obtain ⟨R, hR⟩ : ∃ R, doA l 1 key val = R := ⟨_, rfl⟩
    have HDO : Hid (∀ W, Kp w6 W -> Calls Tryz.prog 69 #[v, .agg #[.int .i64 1, .int .i64 key, .int .i64 val]] W (DoPost R W)) := hide (fun W kW => by
     rw [<- hR]
     exact do_any l 1 key val v W (HV.out.2.1.rd.kp (HK4.out.trans kW)))
    unfold askO at HA
    rw [hR] at HA
    have HI : Hid ((-9223372036854775808 <= R.2.key /\ R.2.key <= 9223372036854775807) /\ (-9223372036854775808 <= R.2.val /\ R.2.val <= 9223372036854775807)) := hide (by
     have h := H64.out 1 key val
     rw [hR] at h
     exact ⟨h _ (by simp), h _ (by simp)⟩)
    clear hR kk4 hbc4
    obtain ⟨l', r⟩ := R
    dsimp only at HA
    refine wp_region_tabG (by kernel_rfl) [(37, .pointer (some ⟨d, 0, none⟩)), (38, .pointer (some ⟨d, 0, none⟩)), (39, .pointer (some ⟨d, 0, none⟩)), (40, v), (41, .agg #[.int .i64 1, .int .i64 key, .int .i64 val]), (44, r.v)] (G7 B l' r) (J7 w6 r) 0 ⟨(Kp.refl _).drew, fun h => (by simp [Array.getD] at h), fun h => (by simp [Array.getD] at h)⟩ (by kernel_rfl) (by kernel_rfl) ?_ ?_
    ·refine ⟨?_, ?_, ?_, ?_, ?_, ?_, ?_, ?_, ?_, ?_, ?_, ?_, trivial⟩
     ·intro hop L a w5 γ hs hk hl ha keep know spec
      have h0 := keep 0 (.pointer (some ⟨d, 0, none⟩)) (by kernel_rfl) rfl
      exact wpOp_value hop (wanted_none rfl) (v := .pointer (some ⟨d, 0, none⟩)) (by simp only [execOp, Act.eval, h0]; rfl) ⟨_, γ, rfl, hk.go (Kp.refl _) 0 (by decide) (by decide), (fun d hd => by injection hd with hd; subst hd; exact ⟨tab rfl, G7.none (by decide)⟩), fun _ _ _ h => h⟩
     ·intro hop L a w5 γ hs hk hl ha keep know spec
      have h37 := know 37 (.pointer (some ⟨d, 0, none⟩)) (by kernel_rfl) rfl
      exact wpOp_value hop (wanted_none rfl) (v := .pointer (some ⟨d, 0, none⟩)) (by simp only [execOp, Act.eval, h37]; rfl) ⟨_, γ, rfl, hk.go (Kp.refl _) 1 (by decide) (by decide), (fun d hd => by injection hd with hd; subst hd; exact ⟨tab rfl, G7.none (by decide)⟩), fun _ _ _ h => h⟩
     ·intro hop L a w5 γ hs hk hl ha keep know spec
      have h38 := know 38 (.pointer (some ⟨d, 0, none⟩)) (by kernel_rfl) rfl
      exact wpOp_value hop (wanted_none rfl) (v := .pointer (some ⟨d, 0, none⟩)) (by simp only [execOp, Act.eval, h38]; rfl) ⟨_, γ, rfl, hk.go (Kp.refl _) 2 (by decide) (by decide), (fun d hd => by injection hd with hd; subst hd; exact ⟨tab rfl, G7.none (by decide)⟩), fun _ _ _ h => h⟩
     ·intro hop L a w5 γ hs hk hl ha keep know spec
      have h39 := know 39 (.pointer (some ⟨d, 0, none⟩)) (by kernel_rfl) rfl
      exact wpOp_value hop (wanted_none rfl) (v := v) (by simp only [execOp, Act.eval, h39]; exact run_v (ld_pairs (hk.1.cell HC0.out))) ⟨_, γ, rfl, hk.go (Kp.refl _) 3 (by decide) (by decide), (fun d hd => by injection hd with hd; subst hd; exact ⟨tab rfl, G7.none (by decide)⟩), fun _ _ _ h => h⟩
     ·intro hop L a w5 γ hs hk hl ha keep know spec
      have h7 := keep 7 (.pointer (some ⟨p, 0, none⟩)) (by kernel_rfl) rfl
      exact wpOp_value hop (wanted_none rfl) (v := .agg #[.int .i64 1, .int .i64 key, .int .i64 val]) (by simp only [execOp, Act.eval, h7]; exact run_v (ld_op (HBC.out.kp hk.1))) ⟨_, γ, rfl, hk.go (Kp.refl _) 4 (by decide) (by decide), (fun d hd => by injection hd with hd; subst hd; exact ⟨tab rfl, G7.none (by decide)⟩), fun _ _ _ h => h⟩
     ·intro hop L a w5 γ hs hk hl ha keep know spec
      have h40 := know 40 (v) (by kernel_rfl) rfl
      have h41 := know 41 (.agg #[.int .i64 1, .int .i64 key, .int .i64 val]) (by kernel_rfl) rfl
      exact wpOp_call hop (wanted_none rfl) (by simp only [execOp, resolve, Act.eval, List.map_toArray, List.map_cons, List.map_nil, h40, h41]; rfl) (HDO.out w5 hk.1) fun e w6 hR => by
       obtain ⟨v', rfl, ho, hb6⟩ := hR
       exact ⟨_, rfl, _, γ, rfl, hk.go (Kp.of hb6) 5 (by decide) (by decide), (fun d hd => by injection hd with hd; subst hd; exact ⟨tab_none rfl, ⟨fun _ => ⟨v', rfl, ho.more (Nat.le_trans HB.out hk.1.size)⟩, fun e => by omega, fun e => by omega⟩⟩), fun _ _ _ h => h.kp (Kp.of hb6)⟩
     ·intro hop L a w5 γ hs hk hl ha keep know spec
      have hG := (spec 42 (by kernel_rfl)).1 (.inl rfl)
      obtain ⟨x, hx⟩ : ∃ x, x = a.tmps.getD 42 undef := ⟨_, rfl⟩
      rw [<- hx] at hG
      exact wpOp_value hop (wanted_none rfl) (v := x) (by simp only [execOp, Act.eval, <- hx]; rfl) ⟨_, γ, rfl, hk.go (Kp.refl _) 6 (by decide) (by decide), (fun d hd => by injection hd with hd; subst hd; exact ⟨tab_none rfl, ⟨fun _ => hG, fun e => by omega, fun e => by omega⟩⟩), fun _ _ _ h => h⟩
     ·intro hop L a w5 γ hs hk hl ha keep know spec
      obtain ⟨v', e36, ho⟩ := (spec 36 (by kernel_rfl)).1 (.inr rfl)
      exact wpOp_value hop (wanted_none rfl) (v := v') (by simp only [execOp, Act.eval, e36]; rfl) ⟨_, γ, rfl, hk.go (Kp.refl _) 7 (by decide) (by decide), (fun d hd => by injection hd with hd; subst hd; exact ⟨tab_none rfl, ⟨fun e => by omega, fun _ => ho, fun e => by omega⟩⟩), fun _ _ _ h => h⟩
     ·intro hop L a w5 γ hs hk hl ha keep know spec
      obtain ⟨v', e36, ho⟩ := (spec 36 (by kernel_rfl)).1 (.inr rfl)
      exact wpOp_value hop (wanted_none rfl) (v := r.v) (by simp only [execOp, Act.eval, e36]; rfl) ⟨_, γ, rfl, hk.go (Kp.refl _) 8 (by decide) (by decide), (fun d hd => by injection hd with hd; subst hd; exact ⟨tab rfl, G7.none (by decide)⟩), fun _ _ _ h => h⟩
     ·intro hop L a w5 γ hs hk hl ha keep know spec
      exact wpOp_value hop (wanted_none rfl) (v := .pointer (some ⟨w5.heap.size, 0, none⟩)) (w' := w5.alloc (.cells #[.int .i64 0, .int .i64 0, .int .i64 0, .bool false] 84)) (by simp only [execOp, Act.eval]; go_simp) ⟨_, w5.heap.size, rfl, j7_new hk hl, (fun d hd => by injection hd with hd; subst hd; exact ⟨tab_none rfl, ⟨fun e => by omega, fun e => by omega, fun _ => rfl⟩⟩), fun _ _ hne h => h.alloc (Kp.refl _).alloc (fun e => hne (by rw [e]))⟩
     ·intro hop L a w5 γ hs hk hl ha keep know spec
      have hG := (spec 43 (by kernel_rfl)).2.1 (.inl rfl)
      obtain ⟨x, hx⟩ : ∃ x, x = a.tmps.getD 43 undef := ⟨_, rfl⟩
      rw [<- hx] at hG
      exact wpOp_value hop (wanted_none rfl) (v := x) (by simp only [execOp, Act.eval, <- hx]; rfl) ⟨_, γ, rfl, hk.go (Kp.refl _) 10 (by decide) (by decide), (fun d hd => by injection hd with hd; subst hd; exact ⟨tab_none rfl, ⟨fun e => by omega, fun _ => hG, fun e => by omega⟩⟩), fun _ _ _ h => h⟩
     ·intro hop L a w5 γ hs hk hl ha keep know spec
      have h44 := know 44 (r.v) (by kernel_rfl) rfl
      have e9 := (spec 9 (by kernel_rfl)).2.2 rfl
      have l9 := after_done ha (k := 9) (by kernel_rfl)
      obtain ⟨cs, bc⟩ := hk.bcA l9
      exact wpOp_skip hop (wanted_none rfl) (w' := stAns w5 γ r) (by simp only [execOp, Act.eval, h44, e9]; exact run_u (st_ans bc.1 bc.2 r)) ⟨_, γ, rfl, hk.store l9, (fun d hd => by cases hd), fun _ _ _ h => h.store bc.1⟩
    intro a' w7 γ e1 e2 hk keep know spec
    obtain ⟨tm, df⟩ := a'
    have h8 := (spec 8 (by kernel_rfl)).2.1 (.inr rfl)
    have h9 := (spec 9 (by kernel_rfl)).2.2 rfl
    obtain ⟨f, hfd, hf⟩ := frame_putsE (D := [37, 38, 39, 40, 41, 42, 36, 43, 44, 9, 8]) e2 keep
    have e1' : df = [] := e1
    clear keep know spec e1 e2
    simp only [List.foldl_cons, List.foldl_nil] at hf
    have e8 := hfd 8
    have e9 := hfd 9
    clear hfd
    subst e1'
    rw [e8] at h8
    rw [e9] at h9
    rw [h9] at hf
    obtain ⟨v8, hv8⟩ : ∃ v8, v8 = f 8 := ⟨_, rfl⟩
    rw [<- hv8] at h8 hf
    rw [hf]
    clear hf e8 e9 h9 hv8
    obtain ⟨hk67, hbA⟩ := (show Kp w6 w7 /\ BC w7 γ 84 [.int .i64 r.err, .int .i64 r.key, .int .i64 r.val, .bool r.is] from ⟨hk.1, by
     have := (hk.2.2 (rep_true _ _)).2
     rwa [if_pos (rep_true _ _)] at this⟩)
    clear hk
    obtain ⟨A8, n8, c8, rfl⟩ := h8.rd.slice
    obtain ⟨er, ak, av, ai⟩ := r
    dsimp only at hbA HA HI
    have ca0 := hbA.cell 0
    have HBA := hide hbA
    have H8 := hide h8
    have HK7 := hide (HK4.out.trans hk67)
    have HBC7 := hide (HBC.out.kp hk67)
    clear hbA h8 hk67
    by_cases her : er = 0
    ·subst her
     have HA2 := hide (HA.out.trans (if_pos rfl))
     clear HA
     go_wp2_with fail
     refine (must_any 0 _).mono ?_
     rintro e w7' ⟨he, rfl⟩
     rw [if_pos rfl] at he
     subst he
     go_wp2_with fail
     have HB7 : Hid (B <= w7.heap.size) := hide (Nat.le_trans HB0.out HK7.out.size)
     have HUP : Hid (u.ownBlock ≠ some p) := hide (fun e => by have := (HV.out.2.2.lt p e).2; have := HP0.out; omega)
     have HUL : Hid (∀ k, u.ownBlock = some k -> k < w7.heap.size) := hide (fun k e => Nat.lt_of_lt_of_le (HV.out.2.2.lt k e).2 HK7.out.size)
     have HDL7 : Hid (d < w7.heap.size) := hide (Nat.lt_of_lt_of_le HDL.out HK7.out.size)
     have HM1 : Hid ((ops.length + [((1, key, val) : O3)].length) * 24 <= 140737488355328) := hide (by simp; omega)
     have HM2 : Hid (ops.length + [((1, key, val) : O3)].length <= maxLen) := hide (by simp [maxLen]; omega)
     refine wp_region_tabG (by kernel_rfl) [(48, .pointer (some ⟨d, 0, none⟩)), (49, .pointer (some ⟨d, 0, none⟩)), (50, (.slice A8 n8 c8)), (51, .pointer (some ⟨d, 0, none⟩)), (52, .pointer (some ⟨d, 0, none⟩)), (53, .pointer (some ⟨d, 1, none⟩)), (54, u), (55, .agg #[.int .i64 1, .int .i64 key, .int .i64 val]), (58, .pointer (some ⟨d, 0, none⟩)), (59, .pointer (some ⟨d, 0, none⟩)), (60, .pointer (some ⟨d, 0, none⟩)), (61, .pointer (some ⟨d, 1, none⟩))] (fun j v W _ => G9 w7 B d ops (1, key, val) j v W) (fun L W _ => J9 w7 B d p γ l' ops (1, key, val) ⟨0, ak, av, ai⟩ v u (.slice A8 n8 c8) L W) 0
      ⟨⟨fun h => (by simp [Array.getD] at h), fun h => (by simp [Array.getD] at h)⟩, KD.of (Kp.refl w7).drew HB7.out, Nat.le_refl _, HBA.out.kp (Kp.refl _).drew, H8.out.kp (Kp.refl _).drew, fun _ => (HV.out.2.2.kp HK7.out).kp (Kp.refl _).drew, HBC7.out.kp (Kp.refl _).drew, v, u, (HV.out.1.kp HK7.out).kp (Kp.refl _).drew, fun h => (by simp [Array.getD] at h), fun _ => rfl, fun h => (by simp [Array.getD] at h)⟩ (by kernel_rfl) (by kernel_rfl) ?_ ?_
     ·have HB := HB7
      have HDL := HDL7
      refine ⟨?_, ?_, ?_, ?_, ?_, ?_, ?_, ?_, ?_, ?_, ?_, ?_, ?_, ?_, ?_, ?_, trivial⟩
      ·intro hop L a w5 γ hs hk hl ha keep know spec
       have h0 := keep 0 (.pointer (some ⟨d, 0, none⟩)) (by kernel_rfl) rfl
       exact wpOp_value hop (wanted_none rfl) (v := .pointer (some ⟨d, 0, none⟩)) (by simp only [execOp, Act.eval, h0]; rfl) ⟨_, γ, rfl, hk.go (Kp.refl _) HB.out 0 (by decide) (by decide) (by decide), (fun d hd => by injection hd with hd; subst hd; exact ⟨tab rfl, G9.none (by decide)⟩), fun _ _ _ h => h⟩
      ·intro hop L a w5 γ hs hk hl ha keep know spec
       have h0 := keep 0 (.pointer (some ⟨d, 0, none⟩)) (by kernel_rfl) rfl
       exact wpOp_value hop (wanted_none rfl) (v := .pointer (some ⟨d, 0, none⟩)) (by simp only [execOp, Act.eval, h0]; rfl) ⟨_, γ, rfl, hk.go (Kp.refl _) HB.out 1 (by decide) (by decide) (by decide), (fun d hd => by injection hd with hd; subst hd; exact ⟨tab rfl, G9.none (by decide)⟩), fun _ _ _ h => h⟩
      ·intro hop L a w5 γ hs hk hl ha keep know spec
       have h8 := keep 8 ((.slice A8 n8 c8)) (by kernel_rfl) rfl
       exact wpOp_value hop (wanted_none rfl) (v := (.slice A8 n8 c8)) (by simp only [execOp, Act.eval, h8]; rfl) ⟨_, γ, rfl, hk.go (Kp.refl _) HB.out 2 (by decide) (by decide) (by decide), (fun d hd => by injection hd with hd; subst hd; exact ⟨tab rfl, G9.none (by decide)⟩), fun _ _ _ h => h⟩
      ·intro hop L a w5 γ hs hk hl ha keep know spec
       have h0 := keep 0 (.pointer (some ⟨d, 0, none⟩)) (by kernel_rfl) rfl
       exact wpOp_value hop (wanted_none rfl) (v := .pointer (some ⟨d, 0, none⟩)) (by simp only [execOp, Act.eval, h0]; rfl) ⟨_, γ, rfl, hk.go (Kp.refl _) HB.out 3 (by decide) (by decide) (by decide), (fun d hd => by injection hd with hd; subst hd; exact ⟨tab rfl, G9.none (by decide)⟩), fun _ _ _ h => h⟩
      ·intro hop L a w5 γ hs hk hl ha keep know spec
       have h51 := know 51 (.pointer (some ⟨d, 0, none⟩)) (by kernel_rfl) rfl
       exact wpOp_value hop (wanted_none rfl) (v := .pointer (some ⟨d, 0, none⟩)) (by simp only [execOp, Act.eval, h51]; rfl) ⟨_, γ, rfl, hk.go (Kp.refl _) HB.out 4 (by decide) (by decide) (by decide), (fun d hd => by injection hd with hd; subst hd; exact ⟨tab rfl, G9.none (by decide)⟩), fun _ _ _ h => h⟩
      ·intro hop L a w5 γ hs hk hl ha keep know spec
       have h52 := know 52 (.pointer (some ⟨d, 0, none⟩)) (by kernel_rfl) rfl
       exact wpOp_value hop (wanted_none rfl) (v := .pointer (some ⟨d, 1, none⟩)) (by simp only [execOp, Act.eval, h52]; rfl) ⟨_, γ, rfl, hk.go (Kp.refl _) HB.out 5 (by decide) (by decide) (by decide), (fun d hd => by injection hd with hd; subst hd; exact ⟨tab rfl, G9.none (by decide)⟩), fun _ _ _ h => h⟩
      ·intro hop L a w5 γ hs hk hl ha keep know spec
       have h53 := know 53 (.pointer (some ⟨d, 1, none⟩)) (by kernel_rfl) rfl
       obtain ⟨q0, _, _, _, _, _, _, x0, x1, q6, _, q8, _⟩ := id hk
       have e1 := q8 (q0.not9 hl)
       subst e1
       exact wpOp_value hop (wanted_none rfl) (v := x1) (by simp only [execOp, Act.eval, h53]; exact run_v (ld_ops (q6.cell 1))) ⟨_, γ, rfl, hk.go (Kp.refl _) HB.out 6 (by decide) (by decide) (by decide), (fun d hd => by injection hd with hd; subst hd; exact ⟨tab rfl, G9.none (by decide)⟩), fun _ _ _ h => h⟩
      ·intro hop L a w5 γ hs hk hl ha keep know spec
       have h7 := keep 7 (.pointer (some ⟨p, 0, none⟩)) (by kernel_rfl) rfl
       have q := hk.2.2.2.2.2.2.1
       exact wpOp_value hop (wanted_none rfl) (v := .agg #[.int .i64 1, .int .i64 key, .int .i64 val]) (by simp only [execOp, Act.eval, h7]; exact run_v (ld_op q)) ⟨_, γ, rfl, hk.go (Kp.refl _) HB.out 7 (by decide) (by decide) (by decide), (fun d hd => by injection hd with hd; subst hd; exact ⟨tab rfl, G9.none (by decide)⟩), fun _ _ _ h => h⟩
      ·intro hop L a w5 γ hs hk hl ha keep know spec
       have h55 := know 55 (.agg #[.int .i64 1, .int .i64 key, .int .i64 val]) (by kernel_rfl) rfl
       exact wpOp_value hop (wanted_none rfl) (v := .slice (some ⟨w5.heap.size, 0, none⟩) 1 1) (w' := w5.alloc (.cells #[.int .i64 1, .int .i64 key, .int .i64 val] 82)) (by simp only [execOp, Act.eval, List.map_toArray, List.map_cons, List.map_nil, h55]; go_simp) ⟨_, γ, rfl, hk.go (Kp.refl _).alloc HB.out 8 (by decide) (by decide) (by decide), (fun d hd => by injection hd with hd; subst hd; exact ⟨tab_none rfl, ⟨fun _ => ⟨_, rfl, hk.2.2.1, BC.new w5 _ [.int .i64 1, .int .i64 key, .int .i64 val]⟩, fun e => by omega⟩⟩), fun _ _ _ h => h.kp (Kp.refl _).alloc⟩
      ·intro hop L a w5 γ hs hk hl ha keep know spec
       have h54 := know 54 (u) (by kernel_rfl) rfl
       obtain ⟨b, e56, hb, bc⟩ := (spec 56 (by kernel_rfl)).1 rfl
       have how := hk.2.2.2.2.2.1 hl
       obtain ⟨v', w', hr, hov, hgr, hat⟩ := run_app (P := Tryz.prog) 38 row_op how (rd_one (o := (1, key, val)) bc) HM1.out HM2.out (Nat.le_trans HB.out hk.2.2.1)
       have hq := hk.app HB.out hl (after_done ha (k := 6) (by kernel_rfl)) HUP.out hgr hov hat
       exact wpOp_value hop (wanted_none rfl) (v := v') (w' := w') (run_exec_app (.tmp 54) (.tmp 56) rfl h54 e56 hr) ⟨_, γ, rfl, hq.1, (fun d hd => by injection hd with hd; subst hd; exact ⟨tab_none rfl, ⟨fun e => by omega, fun _ => ⟨hov, hq.2⟩⟩⟩), fun j u hd h => h.app (fun e => hd (by rw [e])) hgr HUL.out⟩
      ·intro hop L a w5 γ hs hk hl ha keep know spec
       have h48 := know 48 (.pointer (some ⟨d, 0, none⟩)) (by kernel_rfl) rfl
       exact wpOp_value hop (wanted_none rfl) (v := .pointer (some ⟨d, 0, none⟩)) (by simp only [execOp, Act.eval, h48]; rfl) ⟨_, γ, rfl, hk.go (Kp.refl _) HB.out 10 (by decide) (by decide) (by decide), (fun d hd => by injection hd with hd; subst hd; exact ⟨tab rfl, G9.none (by decide)⟩), fun _ _ _ h => h⟩
      ·intro hop L a w5 γ hs hk hl ha keep know spec
       have h58 := know 58 (.pointer (some ⟨d, 0, none⟩)) (by kernel_rfl) rfl
       exact wpOp_value hop (wanted_none rfl) (v := .pointer (some ⟨d, 0, none⟩)) (by simp only [execOp, Act.eval, h58]; rfl) ⟨_, γ, rfl, hk.go (Kp.refl _) HB.out 11 (by decide) (by decide) (by decide), (fun d hd => by injection hd with hd; subst hd; exact ⟨tab rfl, G9.none (by decide)⟩), fun _ _ _ h => h⟩
      ·intro hop L a w5 γ hs hk hl ha keep know spec
       have h59 := know 59 (.pointer (some ⟨d, 0, none⟩)) (by kernel_rfl) rfl
       have h50 := know 50 ((.slice A8 n8 c8)) (by kernel_rfl) rfl
       obtain ⟨cs, hd⟩ := hk.bcD
       exact wpOp_skip hop (wanted_none rfl) (w' := w5.setCell ⟨d, 0, none⟩ (.slice A8 n8 c8)) (by simp only [execOp, Act.eval, h59, h50]; exact run_u (st_pairs hd.1 hd.2)) ⟨_, γ, rfl, hk.store0 HBD.out, (fun d hd => by cases hd), fun _ _ _ h => h.far HDL.out⟩
      ·intro hop L a w5 γ hs hk hl ha keep know spec
       have h49 := know 49 (.pointer (some ⟨d, 0, none⟩)) (by kernel_rfl) rfl
       exact wpOp_value hop (wanted_none rfl) (v := .pointer (some ⟨d, 0, none⟩)) (by simp only [execOp, Act.eval, h49]; rfl) ⟨_, γ, rfl, hk.go (Kp.refl _) HB.out 13 (by decide) (by decide) (by decide), (fun d hd => by injection hd with hd; subst hd; exact ⟨tab rfl, G9.none (by decide)⟩), fun _ _ _ h => h⟩
      ·intro hop L a w5 γ hs hk hl ha keep know spec
       have h60 := know 60 (.pointer (some ⟨d, 0, none⟩)) (by kernel_rfl) rfl
       exact wpOp_value hop (wanted_none rfl) (v := .pointer (some ⟨d, 1, none⟩)) (by simp only [execOp, Act.eval, h60]; rfl) ⟨_, γ, rfl, hk.go (Kp.refl _) HB.out 14 (by decide) (by decide) (by decide), (fun d hd => by injection hd with hd; subst hd; exact ⟨tab rfl, G9.none (by decide)⟩), fun _ _ _ h => h⟩
      ·intro hop L a w5 γ hs hk hl ha keep know spec
       have h61 := know 61 (.pointer (some ⟨d, 1, none⟩)) (by kernel_rfl) rfl
       have hG := (spec 57 (by kernel_rfl)).2 rfl
       obtain ⟨x, hx⟩ : ∃ x, x = a.tmps.getD 57 undef := ⟨_, rfl⟩
       rw [<- hx] at hG
       have l9 := after_done ha (k := 9) (by kernel_rfl)
       obtain ⟨cs, hd⟩ := hk.bcD
       obtain ⟨xA, xn, xc, rfl⟩ := hG.1.rd.slice
       exact wpOp_skip hop (wanted_none rfl) (w' := w5.setCell ⟨d, 1, none⟩ (.slice xA xn xc)) (by simp only [execOp, Act.eval, h61, <- hx]; exact run_u (st_ops hd.1 hd.2)) ⟨_, γ, rfl, hk.store1 HBD.out l9 hG.1, (fun d hd => by cases hd), fun _ _ _ h => h.far HDL.out⟩
     ·intro a' w9 γ' e1 e2 hk keep know spec
      obtain ⟨tm, df⟩ := a'
      obtain ⟨f9, hf⟩ := frame_puts (D := [48, 49, 50, 51, 52, 53, 54, 55, 56, 57, 58, 59, 60, 61]) e2 keep
      have e1' : df = [] := e1
      clear keep know spec e1 e2
      simp only [List.foldl_cons, List.foldl_nil] at hf
      subst e1'
      rw [hf]
      clear hf
      obtain ⟨q0, q1, q2, q3, q4, q5, q6, x0, x1, q7, q8, q9, q10⟩ := hk
      have e0 := q8 (rep_true _ _)
      subst e0
      have HD9 : Hid (DS w9 B d l' (ops ++ [(1, key, val)])) := hide ⟨_, x1, q7, q4, q10 (rep_true _ _)⟩
      have HKD : Hid (KD B d w w9) := hide ((KD.of HK7.out HB0.out).trans q1)
      have ca0 := q3.cell 0
      have ca1 := q3.cell 1
      have ca2 := q3.cell 2
      have ca3 := q3.cell 3
      have HZ9 : Hid (B <= w9.heap.size) := hide (Nat.le_trans HB7.out q2)
      clear q0 q1 q2 q3 q4 q5 q6 q7 q8 q9 q10
      simp only [List.getElem?_cons_zero, List.getElem?_cons_succ] at ca0 ca1 ca2 ca3
      cases ai with
      | true =>
       go_wp2
       go_ret
       exact ⟨HKD.out, by rw [HA2.out]; exact ⟨rfl, HD9.out⟩⟩
      | false =>
       go_wp2
       go_ret
       exact ⟨HKD.out, by rw [HA2.out]; exact ⟨rfl, HD9.out⟩⟩
    ·have HA2 := hide (HA.out.trans (if_neg her))
     clear HA
     go_wp2_with fail
     refine (must_any er _).mono ?_
     rintro e w7' ⟨he, rfl⟩
     rw [if_neg her, slipE] at he
     subst he
     go_wp2
     exact ⟨rfl, by rw [HA2.out]; exact ⟨KD.of HK7.out HB0.out, rfl, HDS.out.kp HK7.out⟩⟩
 ·have HA : Hid (askW l ops ws = .error 1) := hide (by rw [askW, if_pos hk, if_pos hl])
  obtain ⟨A, c, rfl, _, _⟩ := hrw.shape
  obtain ⟨b, o, rfl, _, x0⟩ := hrw.str (k := 0) (List.length_pos_iff.2 h0)
  rw [Nat.add_zero] at x0
  have hl0 : 0 < ws.length := List.length_pos_iff.2 h0
  have hl0i : (0 : Int) < (ws.length : Int) := by omega
  have d0 : decide (0 < ws.length) = true := decide_eq_true hl0
  have bl : ((ws.length : Int) == 3) = false := beq_eq_false_iff_ne.2 (by omega)
  obtain ⟨s0, hs0⟩ : ∃ s0, s0 = ws[0] := ⟨_, rfl⟩
  have hk' : kindOf s0 = 1 := by
   have e : ws.getD 0 ByteArray.empty = ws[0] := by simp [List.getD_eq_getElem?_getD, List.getElem?_eq_getElem hl0]
   rw [hs0, <- e]
   first | exact hk | exact hkk
  rw [<- hs0] at x0
  have HK : Hid (Calls Tryz.prog 36 #[.string s0] w (fun e w' => e = .returned (.tuple #[.int .i64 1, .int .i64 2]) /\ Kp w w')) := hide ((kind_any s0 w).mono (fun e w' h => by
   obtain ⟨h1, h2⟩ := h
   rw [hk'] at h1
   first | (rw [if_neg hk] at h1; exact ⟨h1, h2⟩) | (rw [if_pos rfl] at h1; exact ⟨h1, h2⟩)))
  have HDS := hide hds
  clear hrw hss hk' ht hl hs0 hl0 h64 hds hBd
  go_enter Tryz.func37, Tryz.ntmps37
  go_wp2_with fail
  refine HK.out.mono ?_
  rintro e w1 ⟨rfl, hk1⟩
  go_wp2_with fail
  refine (must_any 1 _).mono ?_
  rintro e w7' ⟨he, rfl⟩
  rw [if_neg (by decide), slipE] at he
  subst he
  go_wp2
  exact ⟨rfl, by rw [HA.out]; exact ⟨KD.of hk1 hB, rfl, HDS.out.kp hk1⟩⟩
theorem ask_else (B d : Nat) (l : List IP) (ops : List O3) (ws : List ByteArray) (vw : Value) (w : World) (hds : DS w B d l ops) (hrw : RD w eStr vw ws) (hB : B <= w.heap.size) (hBd : B <= d) (ht : TT B w) (hol : ops.length <= 1000)
  (hss : ∀ s ∈ ws, s.size <= 9223372036854775807) (hk : kOf ws ≠ 1) (hk0 : 1 <= kOf ws) (h0 : ws ≠ [])
  (h64 : ∀ k key val, In64 [(doA l k key val).2.key, (doA l k key val).2.val]) :
  Calls Tryz.prog 37 #[.pointer (some ⟨d, 0, none⟩), vw] w (LinePost B d l ops (askW l ops ws) w) := by
 have hk7 : kOf ws <= 7 := (kind_in _).2
 obtain ⟨k, hkk⟩ : ∃ k, kOf ws = k := ⟨_, rfl⟩
 rw [hkk] at hk hk0 hk7
 by_cases hl : ws.length = 2
 ·obtain ⟨s0, s1, rfl⟩ : ∃ s0 s1, ws = [s0, s1] := by
   match ws, hl with
   | [a, b], _ => exact ⟨a, b, rfl⟩
  have hk' : kindOf s0 = k := hkk
  have HA : Hid (askW l ops [s0, s1] = match numF s1.data.toList with
   | none => .error 1
   | some key => askO l ops k key 0) := hide (by rw [askW, hkk, if_neg hk]; rfl)
  obtain ⟨A, c, rfl, _, _⟩ := hrw.shape
  obtain ⟨b, o, rfl, _, x0⟩ := hrw.str (k := 0) (by simp)
  obtain ⟨_, _, e1, _, x1⟩ := hrw.str (k := 1) (by simp)
  injection e1 with e1
  injection e1 with e1 e2
  subst e1 e2
  simp only [List.getElem_cons_zero, List.getElem_cons_succ, List.length_cons, List.length_nil, Nat.zero_add, Nat.add_zero, Nat.reduceAdd] at x0 x1 ⊢
  have HX := hide (And.intro x0 x1)
  have HN1 := hide (fun W => number_any s1 W (hss s1 (by simp)))
  have HK : Hid (Calls Tryz.prog 36 #[.string s0] w (fun e w' => e = .returned (.tuple #[.int .i64 k, .int .i64 1]) /\ Kp w w')) := hide ((kind_any s0 w).mono (fun e w' h => by
   obtain ⟨h1, h2⟩ := h
   rw [hk', if_neg hk] at h1
   exact ⟨h1, h2⟩))
  have HDS := hide hds
  obtain ⟨v, u, hb0, hv0, hu0⟩ := hds
  have HV := hide (And.intro hb0 (And.intro hv0 hu0))
  have HT := hide ht
  have HBD := hide hBd
  have HDL : Hid (d < w.heap.size) := hide hb0.lt
  have HB0 := hide hB
  have H64 := hide h64
  have bk1 : (k == 1) = false := beq_eq_false_iff_ne.2 hk
  clear hb0 hv0 hu0 h64
  clear hrw hss hk' ht hl x1 hBd hkk
  go_enter Tryz.func37, Tryz.ntmps37
  go_wp2_with fail
  refine HK.out.mono ?_
  rintro e w1 ⟨rfl, hk1⟩
  have c1 := hk1.cell HX.out.2
  go_wp2_with fail
  refine (HN1.out _).mono ?_
  rintro e w2 ⟨he, hk2⟩
  have kk2 := hk1.trans hk2
  cases hn1 : numF s1.data.toList with
  | none =>
   rw [hn1] at he HA
   simp only at he
   subst he
   rw [slipE]
   clear c1 hn1
   go_wp2
   exact ⟨rfl, by rw [HA.out]; exact ⟨KD.of kk2 hB, rfl, HDS.out.kp kk2⟩⟩
  | some key =>
   rw [hn1] at he HA
   simp only at he HA
   subst he
   clear c1 hn1
   obtain ⟨w6, hw6⟩ : ∃ w6, w6 = w2.alloc (.cells #[.int .i64 k, .int .i64 key, .int .i64 0] 82) := ⟨_, rfl⟩
   have hbc4 : BC w6 w2.heap.size 82 [.int .i64 k, .int .i64 key, .int .i64 0] := by rw [hw6]; exact BC.new w2 _ [.int .i64 k, .int .i64 key, .int .i64 0]
   have kk4 : Kp w w6 := by rw [hw6]; exact kk2.alloc
   have HP0 : Hid (w.heap.size <= w2.heap.size) := hide kk2.size
   obtain ⟨p, hp⟩ : ∃ p, p = w2.heap.size := ⟨_, rfl⟩
   go_wp2_with fail
   rw [<- hp] at hbc4 HP0 ⊢
   rw [<- hw6]
   clear hw6 hp x0
   have HBC := hide hbc4
   have HC0 : Hid (w6.cell? ⟨d, 0, none⟩ = some v) := hide (kk4.cell (HV.out.1.cell 0))
   have HB : Hid (B <= w6.heap.size) := hide (Nat.le_trans HB0.out kk4.size)
   have HK4 := hide kk4
   obtain ⟨R, hR⟩ : ∃ R, doA l k key 0 = R := ⟨_, rfl⟩
   have HDO : Hid (∀ W, Kp w6 W -> Calls Tryz.prog 69 #[v, .agg #[.int .i64 k, .int .i64 key, .int .i64 0]] W (DoPost R W)) := hide (fun W kW => by
    rw [<- hR]
    exact do_any l k key 0 v W (HV.out.2.1.rd.kp (HK4.out.trans kW)))
   unfold askO at HA
   rw [hR] at HA
   have HI : Hid ((-9223372036854775808 <= R.2.key /\ R.2.key <= 9223372036854775807) /\ (-9223372036854775808 <= R.2.val /\ R.2.val <= 9223372036854775807)) := hide (by
    have h := H64.out k key 0
    rw [hR] at h
    exact ⟨h _ (by simp), h _ (by simp)⟩)
   clear hR kk4 hbc4
   obtain ⟨l', r⟩ := R
   dsimp only at HA
   refine wp_region_tabG (by kernel_rfl) [(37, .pointer (some ⟨d, 0, none⟩)), (38, .pointer (some ⟨d, 0, none⟩)), (39, .pointer (some ⟨d, 0, none⟩)), (40, v), (41, .agg #[.int .i64 k, .int .i64 key, .int .i64 0]), (44, r.v)] (G7 B l' r) (J7 w6 r) 0 ⟨(Kp.refl _).drew, fun h => (by simp [Array.getD] at h), fun h => (by simp [Array.getD] at h)⟩ (by kernel_rfl) (by kernel_rfl) ?_ ?_
   ·refine ⟨?_, ?_, ?_, ?_, ?_, ?_, ?_, ?_, ?_, ?_, ?_, ?_, trivial⟩
    ·intro hop L a w5 γ hs hk hl ha keep know spec
     have h0 := keep 0 (.pointer (some ⟨d, 0, none⟩)) (by kernel_rfl) rfl
     exact wpOp_value hop (wanted_none rfl) (v := .pointer (some ⟨d, 0, none⟩)) (by simp only [execOp, Act.eval, h0]; rfl) ⟨_, γ, rfl, hk.go (Kp.refl _) 0 (by decide) (by decide), (fun d hd => by injection hd with hd; subst hd; exact ⟨tab rfl, G7.none (by decide)⟩), fun _ _ _ h => h⟩
    ·intro hop L a w5 γ hs hk hl ha keep know spec
     have h37 := know 37 (.pointer (some ⟨d, 0, none⟩)) (by kernel_rfl) rfl
     exact wpOp_value hop (wanted_none rfl) (v := .pointer (some ⟨d, 0, none⟩)) (by simp only [execOp, Act.eval, h37]; rfl) ⟨_, γ, rfl, hk.go (Kp.refl _) 1 (by decide) (by decide), (fun d hd => by injection hd with hd; subst hd; exact ⟨tab rfl, G7.none (by decide)⟩), fun _ _ _ h => h⟩
    ·intro hop L a w5 γ hs hk hl ha keep know spec
     have h38 := know 38 (.pointer (some ⟨d, 0, none⟩)) (by kernel_rfl) rfl
     exact wpOp_value hop (wanted_none rfl) (v := .pointer (some ⟨d, 0, none⟩)) (by simp only [execOp, Act.eval, h38]; rfl) ⟨_, γ, rfl, hk.go (Kp.refl _) 2 (by decide) (by decide), (fun d hd => by injection hd with hd; subst hd; exact ⟨tab rfl, G7.none (by decide)⟩), fun _ _ _ h => h⟩
    ·intro hop L a w5 γ hs hk hl ha keep know spec
     have h39 := know 39 (.pointer (some ⟨d, 0, none⟩)) (by kernel_rfl) rfl
     exact wpOp_value hop (wanted_none rfl) (v := v) (by simp only [execOp, Act.eval, h39]; exact run_v (ld_pairs (hk.1.cell HC0.out))) ⟨_, γ, rfl, hk.go (Kp.refl _) 3 (by decide) (by decide), (fun d hd => by injection hd with hd; subst hd; exact ⟨tab rfl, G7.none (by decide)⟩), fun _ _ _ h => h⟩
    ·intro hop L a w5 γ hs hk hl ha keep know spec
     have h7 := keep 7 (.pointer (some ⟨p, 0, none⟩)) (by kernel_rfl) rfl
     exact wpOp_value hop (wanted_none rfl) (v := .agg #[.int .i64 k, .int .i64 key, .int .i64 0]) (by simp only [execOp, Act.eval, h7]; exact run_v (ld_op (HBC.out.kp hk.1))) ⟨_, γ, rfl, hk.go (Kp.refl _) 4 (by decide) (by decide), (fun d hd => by injection hd with hd; subst hd; exact ⟨tab rfl, G7.none (by decide)⟩), fun _ _ _ h => h⟩
    ·intro hop L a w5 γ hs hk hl ha keep know spec
     have h40 := know 40 (v) (by kernel_rfl) rfl
     have h41 := know 41 (.agg #[.int .i64 k, .int .i64 key, .int .i64 0]) (by kernel_rfl) rfl
     exact wpOp_call hop (wanted_none rfl) (by simp only [execOp, resolve, Act.eval, List.map_toArray, List.map_cons, List.map_nil, h40, h41]; rfl) (HDO.out w5 hk.1) fun e w6 hR => by
      obtain ⟨v', rfl, ho, hb6⟩ := hR
      exact ⟨_, rfl, _, γ, rfl, hk.go (Kp.of hb6) 5 (by decide) (by decide), (fun d hd => by injection hd with hd; subst hd; exact ⟨tab_none rfl, ⟨fun _ => ⟨v', rfl, ho.more (Nat.le_trans HB.out hk.1.size)⟩, fun e => by omega, fun e => by omega⟩⟩), fun _ _ _ h => h.kp (Kp.of hb6)⟩
    ·intro hop L a w5 γ hs hk hl ha keep know spec
     have hG := (spec 42 (by kernel_rfl)).1 (.inl rfl)
     obtain ⟨x, hx⟩ : ∃ x, x = a.tmps.getD 42 undef := ⟨_, rfl⟩
     rw [<- hx] at hG
     exact wpOp_value hop (wanted_none rfl) (v := x) (by simp only [execOp, Act.eval, <- hx]; rfl) ⟨_, γ, rfl, hk.go (Kp.refl _) 6 (by decide) (by decide), (fun d hd => by injection hd with hd; subst hd; exact ⟨tab_none rfl, ⟨fun _ => hG, fun e => by omega, fun e => by omega⟩⟩), fun _ _ _ h => h⟩
    ·intro hop L a w5 γ hs hk hl ha keep know spec
     obtain ⟨v', e36, ho⟩ := (spec 36 (by kernel_rfl)).1 (.inr rfl)
     exact wpOp_value hop (wanted_none rfl) (v := v') (by simp only [execOp, Act.eval, e36]; rfl) ⟨_, γ, rfl, hk.go (Kp.refl _) 7 (by decide) (by decide), (fun d hd => by injection hd with hd; subst hd; exact ⟨tab_none rfl, ⟨fun e => by omega, fun _ => ho, fun e => by omega⟩⟩), fun _ _ _ h => h⟩
    ·intro hop L a w5 γ hs hk hl ha keep know spec
     obtain ⟨v', e36, ho⟩ := (spec 36 (by kernel_rfl)).1 (.inr rfl)
     exact wpOp_value hop (wanted_none rfl) (v := r.v) (by simp only [execOp, Act.eval, e36]; rfl) ⟨_, γ, rfl, hk.go (Kp.refl _) 8 (by decide) (by decide), (fun d hd => by injection hd with hd; subst hd; exact ⟨tab rfl, G7.none (by decide)⟩), fun _ _ _ h => h⟩
    ·intro hop L a w5 γ hs hk hl ha keep know spec
     exact wpOp_value hop (wanted_none rfl) (v := .pointer (some ⟨w5.heap.size, 0, none⟩)) (w' := w5.alloc (.cells #[.int .i64 0, .int .i64 0, .int .i64 0, .bool false] 84)) (by simp only [execOp, Act.eval]; go_simp) ⟨_, w5.heap.size, rfl, j7_new hk hl, (fun d hd => by injection hd with hd; subst hd; exact ⟨tab_none rfl, ⟨fun e => by omega, fun e => by omega, fun _ => rfl⟩⟩), fun _ _ hne h => h.alloc (Kp.refl _).alloc (fun e => hne (by rw [e]))⟩
    ·intro hop L a w5 γ hs hk hl ha keep know spec
     have hG := (spec 43 (by kernel_rfl)).2.1 (.inl rfl)
     obtain ⟨x, hx⟩ : ∃ x, x = a.tmps.getD 43 undef := ⟨_, rfl⟩
     rw [<- hx] at hG
     exact wpOp_value hop (wanted_none rfl) (v := x) (by simp only [execOp, Act.eval, <- hx]; rfl) ⟨_, γ, rfl, hk.go (Kp.refl _) 10 (by decide) (by decide), (fun d hd => by injection hd with hd; subst hd; exact ⟨tab_none rfl, ⟨fun e => by omega, fun _ => hG, fun e => by omega⟩⟩), fun _ _ _ h => h⟩
    ·intro hop L a w5 γ hs hk hl ha keep know spec
     have h44 := know 44 (r.v) (by kernel_rfl) rfl
     have e9 := (spec 9 (by kernel_rfl)).2.2 rfl
     have l9 := after_done ha (k := 9) (by kernel_rfl)
     obtain ⟨cs, bc⟩ := hk.bcA l9
     exact wpOp_skip hop (wanted_none rfl) (w' := stAns w5 γ r) (by simp only [execOp, Act.eval, h44, e9]; exact run_u (st_ans bc.1 bc.2 r)) ⟨_, γ, rfl, hk.store l9, (fun d hd => by cases hd), fun _ _ _ h => h.store bc.1⟩
   intro a' w7 γ e1 e2 hk keep know spec
   obtain ⟨tm, df⟩ := a'
   have h8 := (spec 8 (by kernel_rfl)).2.1 (.inr rfl)
   have h9 := (spec 9 (by kernel_rfl)).2.2 rfl
   obtain ⟨f, hfd, hf⟩ := frame_putsE (D := [37, 38, 39, 40, 41, 42, 36, 43, 44, 9, 8]) e2 keep
   have e1' : df = [] := e1
   clear keep know spec e1 e2
   simp only [List.foldl_cons, List.foldl_nil] at hf
   have e8 := hfd 8
   have e9 := hfd 9
   clear hfd
   subst e1'
   rw [e8] at h8
   rw [e9] at h9
   rw [h9] at hf
   obtain ⟨v8, hv8⟩ : ∃ v8, v8 = f 8 := ⟨_, rfl⟩
   rw [<- hv8] at h8 hf
   rw [hf]
   clear hf e8 e9 h9 hv8
   obtain ⟨hk67, hbA⟩ := (show Kp w6 w7 /\ BC w7 γ 84 [.int .i64 r.err, .int .i64 r.key, .int .i64 r.val, .bool r.is] from ⟨hk.1, by
    have := (hk.2.2 (rep_true _ _)).2
    rwa [if_pos (rep_true _ _)] at this⟩)
   clear hk
   obtain ⟨A8, n8, c8, rfl⟩ := h8.rd.slice
   obtain ⟨er, ak, av, ai⟩ := r
   dsimp only at hbA HA HI
   have ca0 := hbA.cell 0
   have HBA := hide hbA
   have H8 := hide h8
   have HK7 := hide (HK4.out.trans hk67)
   have HBC7 := hide (HBC.out.kp hk67)
   clear hbA h8 hk67
   by_cases her : er = 0
   ·subst her
    have HA2 := hide (HA.out.trans (if_pos rfl))
    clear HA
    go_wp2_with fail
    refine (must_any 0 _).mono ?_
    rintro e w7' ⟨he, rfl⟩
    rw [if_pos rfl] at he
    subst he
    go_wp2_with fail
    have HB7 : Hid (B <= w7.heap.size) := hide (Nat.le_trans HB0.out HK7.out.size)
    have HUP : Hid (u.ownBlock ≠ some p) := hide (fun e => by have := (HV.out.2.2.lt p e).2; have := HP0.out; omega)
    have HUL : Hid (∀ k, u.ownBlock = some k -> k < w7.heap.size) := hide (fun k e => Nat.lt_of_lt_of_le (HV.out.2.2.lt k e).2 HK7.out.size)
    have HDL7 : Hid (d < w7.heap.size) := hide (Nat.lt_of_lt_of_le HDL.out HK7.out.size)
    have HM1 : Hid ((ops.length + [((k, key, 0) : O3)].length) * 24 <= 140737488355328) := hide (by simp; omega)
    have HM2 : Hid (ops.length + [((k, key, 0) : O3)].length <= maxLen) := hide (by simp [maxLen]; omega)
    refine wp_region_tabG (by kernel_rfl) [(48, .pointer (some ⟨d, 0, none⟩)), (49, .pointer (some ⟨d, 0, none⟩)), (50, (.slice A8 n8 c8)), (51, .pointer (some ⟨d, 0, none⟩)), (52, .pointer (some ⟨d, 0, none⟩)), (53, .pointer (some ⟨d, 1, none⟩)), (54, u), (55, .agg #[.int .i64 k, .int .i64 key, .int .i64 0]), (58, .pointer (some ⟨d, 0, none⟩)), (59, .pointer (some ⟨d, 0, none⟩)), (60, .pointer (some ⟨d, 0, none⟩)), (61, .pointer (some ⟨d, 1, none⟩))] (fun j v W _ => G9 w7 B d ops (k, key, 0) j v W) (fun L W _ => J9 w7 B d p γ l' ops (k, key, 0) ⟨0, ak, av, ai⟩ v u (.slice A8 n8 c8) L W) 0
     ⟨⟨fun h => (by simp [Array.getD] at h), fun h => (by simp [Array.getD] at h)⟩, KD.of (Kp.refl w7).drew HB7.out, Nat.le_refl _, HBA.out.kp (Kp.refl _).drew, H8.out.kp (Kp.refl _).drew, fun _ => (HV.out.2.2.kp HK7.out).kp (Kp.refl _).drew, HBC7.out.kp (Kp.refl _).drew, v, u, (HV.out.1.kp HK7.out).kp (Kp.refl _).drew, fun h => (by simp [Array.getD] at h), fun _ => rfl, fun h => (by simp [Array.getD] at h)⟩ (by kernel_rfl) (by kernel_rfl) ?_ ?_
    ·have HB := HB7
     have HDL := HDL7
     refine ⟨?_, ?_, ?_, ?_, ?_, ?_, ?_, ?_, ?_, ?_, ?_, ?_, ?_, ?_, ?_, ?_, trivial⟩
     ·intro hop L a w5 γ hs hk hl ha keep know spec
      have h0 := keep 0 (.pointer (some ⟨d, 0, none⟩)) (by kernel_rfl) rfl
      exact wpOp_value hop (wanted_none rfl) (v := .pointer (some ⟨d, 0, none⟩)) (by simp only [execOp, Act.eval, h0]; rfl) ⟨_, γ, rfl, hk.go (Kp.refl _) HB.out 0 (by decide) (by decide) (by decide), (fun d hd => by injection hd with hd; subst hd; exact ⟨tab rfl, G9.none (by decide)⟩), fun _ _ _ h => h⟩
     ·intro hop L a w5 γ hs hk hl ha keep know spec
      have h0 := keep 0 (.pointer (some ⟨d, 0, none⟩)) (by kernel_rfl) rfl
      exact wpOp_value hop (wanted_none rfl) (v := .pointer (some ⟨d, 0, none⟩)) (by simp only [execOp, Act.eval, h0]; rfl) ⟨_, γ, rfl, hk.go (Kp.refl _) HB.out 1 (by decide) (by decide) (by decide), (fun d hd => by injection hd with hd; subst hd; exact ⟨tab rfl, G9.none (by decide)⟩), fun _ _ _ h => h⟩
     ·intro hop L a w5 γ hs hk hl ha keep know spec
      have h8 := keep 8 ((.slice A8 n8 c8)) (by kernel_rfl) rfl
      exact wpOp_value hop (wanted_none rfl) (v := (.slice A8 n8 c8)) (by simp only [execOp, Act.eval, h8]; rfl) ⟨_, γ, rfl, hk.go (Kp.refl _) HB.out 2 (by decide) (by decide) (by decide), (fun d hd => by injection hd with hd; subst hd; exact ⟨tab rfl, G9.none (by decide)⟩), fun _ _ _ h => h⟩
     ·intro hop L a w5 γ hs hk hl ha keep know spec
      have h0 := keep 0 (.pointer (some ⟨d, 0, none⟩)) (by kernel_rfl) rfl
      exact wpOp_value hop (wanted_none rfl) (v := .pointer (some ⟨d, 0, none⟩)) (by simp only [execOp, Act.eval, h0]; rfl) ⟨_, γ, rfl, hk.go (Kp.refl _) HB.out 3 (by decide) (by decide) (by decide), (fun d hd => by injection hd with hd; subst hd; exact ⟨tab rfl, G9.none (by decide)⟩), fun _ _ _ h => h⟩
     ·intro hop L a w5 γ hs hk hl ha keep know spec
      have h51 := know 51 (.pointer (some ⟨d, 0, none⟩)) (by kernel_rfl) rfl
      exact wpOp_value hop (wanted_none rfl) (v := .pointer (some ⟨d, 0, none⟩)) (by simp only [execOp, Act.eval, h51]; rfl) ⟨_, γ, rfl, hk.go (Kp.refl _) HB.out 4 (by decide) (by decide) (by decide), (fun d hd => by injection hd with hd; subst hd; exact ⟨tab rfl, G9.none (by decide)⟩), fun _ _ _ h => h⟩
     ·intro hop L a w5 γ hs hk hl ha keep know spec
      have h52 := know 52 (.pointer (some ⟨d, 0, none⟩)) (by kernel_rfl) rfl
      exact wpOp_value hop (wanted_none rfl) (v := .pointer (some ⟨d, 1, none⟩)) (by simp only [execOp, Act.eval, h52]; rfl) ⟨_, γ, rfl, hk.go (Kp.refl _) HB.out 5 (by decide) (by decide) (by decide), (fun d hd => by injection hd with hd; subst hd; exact ⟨tab rfl, G9.none (by decide)⟩), fun _ _ _ h => h⟩
     ·intro hop L a w5 γ hs hk hl ha keep know spec
      have h53 := know 53 (.pointer (some ⟨d, 1, none⟩)) (by kernel_rfl) rfl
      obtain ⟨q0, _, _, _, _, _, _, x0, x1, q6, _, q8, _⟩ := id hk
      have e1 := q8 (q0.not9 hl)
      subst e1
      exact wpOp_value hop (wanted_none rfl) (v := x1) (by simp only [execOp, Act.eval, h53]; exact run_v (ld_ops (q6.cell 1))) ⟨_, γ, rfl, hk.go (Kp.refl _) HB.out 6 (by decide) (by decide) (by decide), (fun d hd => by injection hd with hd; subst hd; exact ⟨tab rfl, G9.none (by decide)⟩), fun _ _ _ h => h⟩
     ·intro hop L a w5 γ hs hk hl ha keep know spec
      have h7 := keep 7 (.pointer (some ⟨p, 0, none⟩)) (by kernel_rfl) rfl
      have q := hk.2.2.2.2.2.2.1
      exact wpOp_value hop (wanted_none rfl) (v := .agg #[.int .i64 k, .int .i64 key, .int .i64 0]) (by simp only [execOp, Act.eval, h7]; exact run_v (ld_op q)) ⟨_, γ, rfl, hk.go (Kp.refl _) HB.out 7 (by decide) (by decide) (by decide), (fun d hd => by injection hd with hd; subst hd; exact ⟨tab rfl, G9.none (by decide)⟩), fun _ _ _ h => h⟩
     ·intro hop L a w5 γ hs hk hl ha keep know spec
      have h55 := know 55 (.agg #[.int .i64 k, .int .i64 key, .int .i64 0]) (by kernel_rfl) rfl
      exact wpOp_value hop (wanted_none rfl) (v := .slice (some ⟨w5.heap.size, 0, none⟩) 1 1) (w' := w5.alloc (.cells #[.int .i64 k, .int .i64 key, .int .i64 0] 82)) (by simp only [execOp, Act.eval, List.map_toArray, List.map_cons, List.map_nil, h55]; go_simp) ⟨_, γ, rfl, hk.go (Kp.refl _).alloc HB.out 8 (by decide) (by decide) (by decide), (fun d hd => by injection hd with hd; subst hd; exact ⟨tab_none rfl, ⟨fun _ => ⟨_, rfl, hk.2.2.1, BC.new w5 _ [.int .i64 k, .int .i64 key, .int .i64 0]⟩, fun e => by omega⟩⟩), fun _ _ _ h => h.kp (Kp.refl _).alloc⟩
     ·intro hop L a w5 γ hs hk hl ha keep know spec
      have h54 := know 54 (u) (by kernel_rfl) rfl
      obtain ⟨b, e56, hb, bc⟩ := (spec 56 (by kernel_rfl)).1 rfl
      have how := hk.2.2.2.2.2.1 hl
      obtain ⟨v', w', hr, hov, hgr, hat⟩ := run_app (P := Tryz.prog) 38 row_op how (rd_one (o := (k, key, 0)) bc) HM1.out HM2.out (Nat.le_trans HB.out hk.2.2.1)
      have hq := hk.app HB.out hl (after_done ha (k := 6) (by kernel_rfl)) HUP.out hgr hov hat
      exact wpOp_value hop (wanted_none rfl) (v := v') (w' := w') (run_exec_app (.tmp 54) (.tmp 56) rfl h54 e56 hr) ⟨_, γ, rfl, hq.1, (fun d hd => by injection hd with hd; subst hd; exact ⟨tab_none rfl, ⟨fun e => by omega, fun _ => ⟨hov, hq.2⟩⟩⟩), fun j u hd h => h.app (fun e => hd (by rw [e])) hgr HUL.out⟩
     ·intro hop L a w5 γ hs hk hl ha keep know spec
      have h48 := know 48 (.pointer (some ⟨d, 0, none⟩)) (by kernel_rfl) rfl
      exact wpOp_value hop (wanted_none rfl) (v := .pointer (some ⟨d, 0, none⟩)) (by simp only [execOp, Act.eval, h48]; rfl) ⟨_, γ, rfl, hk.go (Kp.refl _) HB.out 10 (by decide) (by decide) (by decide), (fun d hd => by injection hd with hd; subst hd; exact ⟨tab rfl, G9.none (by decide)⟩), fun _ _ _ h => h⟩
     ·intro hop L a w5 γ hs hk hl ha keep know spec
      have h58 := know 58 (.pointer (some ⟨d, 0, none⟩)) (by kernel_rfl) rfl
      exact wpOp_value hop (wanted_none rfl) (v := .pointer (some ⟨d, 0, none⟩)) (by simp only [execOp, Act.eval, h58]; rfl) ⟨_, γ, rfl, hk.go (Kp.refl _) HB.out 11 (by decide) (by decide) (by decide), (fun d hd => by injection hd with hd; subst hd; exact ⟨tab rfl, G9.none (by decide)⟩), fun _ _ _ h => h⟩
     ·intro hop L a w5 γ hs hk hl ha keep know spec
      have h59 := know 59 (.pointer (some ⟨d, 0, none⟩)) (by kernel_rfl) rfl
      have h50 := know 50 ((.slice A8 n8 c8)) (by kernel_rfl) rfl
      obtain ⟨cs, hd⟩ := hk.bcD
      exact wpOp_skip hop (wanted_none rfl) (w' := w5.setCell ⟨d, 0, none⟩ (.slice A8 n8 c8)) (by simp only [execOp, Act.eval, h59, h50]; exact run_u (st_pairs hd.1 hd.2)) ⟨_, γ, rfl, hk.store0 HBD.out, (fun d hd => by cases hd), fun _ _ _ h => h.far HDL.out⟩
     ·intro hop L a w5 γ hs hk hl ha keep know spec
      have h49 := know 49 (.pointer (some ⟨d, 0, none⟩)) (by kernel_rfl) rfl
      exact wpOp_value hop (wanted_none rfl) (v := .pointer (some ⟨d, 0, none⟩)) (by simp only [execOp, Act.eval, h49]; rfl) ⟨_, γ, rfl, hk.go (Kp.refl _) HB.out 13 (by decide) (by decide) (by decide), (fun d hd => by injection hd with hd; subst hd; exact ⟨tab rfl, G9.none (by decide)⟩), fun _ _ _ h => h⟩
     ·intro hop L a w5 γ hs hk hl ha keep know spec
      have h60 := know 60 (.pointer (some ⟨d, 0, none⟩)) (by kernel_rfl) rfl
      exact wpOp_value hop (wanted_none rfl) (v := .pointer (some ⟨d, 1, none⟩)) (by simp only [execOp, Act.eval, h60]; rfl) ⟨_, γ, rfl, hk.go (Kp.refl _) HB.out 14 (by decide) (by decide) (by decide), (fun d hd => by injection hd with hd; subst hd; exact ⟨tab rfl, G9.none (by decide)⟩), fun _ _ _ h => h⟩
     ·intro hop L a w5 γ hs hk hl ha keep know spec
      have h61 := know 61 (.pointer (some ⟨d, 1, none⟩)) (by kernel_rfl) rfl
      have hG := (spec 57 (by kernel_rfl)).2 rfl
      obtain ⟨x, hx⟩ : ∃ x, x = a.tmps.getD 57 undef := ⟨_, rfl⟩
      rw [<- hx] at hG
      have l9 := after_done ha (k := 9) (by kernel_rfl)
      obtain ⟨cs, hd⟩ := hk.bcD
      obtain ⟨xA, xn, xc, rfl⟩ := hG.1.rd.slice
      exact wpOp_skip hop (wanted_none rfl) (w' := w5.setCell ⟨d, 1, none⟩ (.slice xA xn xc)) (by simp only [execOp, Act.eval, h61, <- hx]; exact run_u (st_ops hd.1 hd.2)) ⟨_, γ, rfl, hk.store1 HBD.out l9 hG.1, (fun d hd => by cases hd), fun _ _ _ h => h.far HDL.out⟩
    ·intro a' w9 γ' e1 e2 hk keep know spec
     obtain ⟨tm, df⟩ := a'
     obtain ⟨f9, hf⟩ := frame_puts (D := [48, 49, 50, 51, 52, 53, 54, 55, 56, 57, 58, 59, 60, 61]) e2 keep
     have e1' : df = [] := e1
     clear keep know spec e1 e2
     simp only [List.foldl_cons, List.foldl_nil] at hf
     subst e1'
     rw [hf]
     clear hf
     obtain ⟨q0, q1, q2, q3, q4, q5, q6, x0, x1, q7, q8, q9, q10⟩ := hk
     have e0 := q8 (rep_true _ _)
     subst e0
     have HD9 : Hid (DS w9 B d l' (ops ++ [(k, key, 0)])) := hide ⟨_, x1, q7, q4, q10 (rep_true _ _)⟩
     have HKD : Hid (KD B d w w9) := hide ((KD.of HK7.out HB0.out).trans q1)
     have ca0 := q3.cell 0
     have ca1 := q3.cell 1
     have ca2 := q3.cell 2
     have ca3 := q3.cell 3
     have HZ9 : Hid (B <= w9.heap.size) := hide (Nat.le_trans HB7.out q2)
     clear q0 q1 q2 q3 q4 q5 q6 q7 q8 q9 q10
     simp only [List.getElem?_cons_zero, List.getElem?_cons_succ] at ca0 ca1 ca2 ca3
     have HTT := hide (HT.out.go HKD.out.2)
     by_cases h6 : k = 6
     ·have HS : Hid (toldS k ⟨0, ak, av, ai⟩ = Lib.itoa av) := hide (by rw [toldS, if_neg hk, if_pos h6])
      have b6 : (k == 6) = true := beq_iff_eq.2 h6
      go_wp2_with fail
      refine (itoa_any av HI.out.2.1 HI.out.2.2 _ HTT.out.t10).mono ?_
      rintro e w10 ⟨rfl, hk10⟩
      go_wp2
      go_ret
      exact ⟨HKD.out.on hk10 HZ9.out, by rw [HA2.out]; exact ⟨by rw [HS.out]; rfl, HD9.out.kp hk10⟩⟩
     ·have b6 : (k == 6) = false := beq_eq_false_iff_ne.2 h6
      cases ai with
      | false =>
       have HS : Hid (toldS k ⟨0, ak, av, false⟩ = noneB) := hide (by rw [toldS, if_neg hk, if_neg h6, if_pos rfl])
       go_wp2
       go_ret
       exact ⟨HKD.out, by rw [HA2.out]; exact ⟨by rw [HS.out]; rfl, HD9.out⟩⟩
      | true =>
       by_cases h2 : k = 2
       ·have HS : Hid (toldS k ⟨0, ak, av, true⟩ = Lib.itoa av) := hide (by rw [toldS, if_neg hk, if_neg h6, if_neg (by simp), if_pos (.inl h2)])
        have b2 : (k == 2) = true := beq_iff_eq.2 h2
        go_wp2_with fail
        refine (itoa_any av HI.out.2.1 HI.out.2.2 _ HTT.out.t10).mono ?_
        rintro e w10 ⟨rfl, hk10⟩
        go_wp2
        go_ret
        exact ⟨HKD.out.on hk10 HZ9.out, by rw [HA2.out]; exact ⟨by rw [HS.out]; rfl, HD9.out.kp hk10⟩⟩
       ·have b2 : (k == 2) = false := beq_eq_false_iff_ne.2 h2
        by_cases h3 : k = 3
        ·have HS : Hid (toldS k ⟨0, ak, av, true⟩ = Lib.itoa av) := hide (by rw [toldS, if_neg hk, if_neg h6, if_neg (by simp), if_pos (.inr h3)])
         have b3 : (k == 3) = true := beq_iff_eq.2 h3
         go_wp2_with fail
         refine (itoa_any av HI.out.2.1 HI.out.2.2 _ HTT.out.t10).mono ?_
         rintro e w10 ⟨rfl, hk10⟩
         go_wp2
         go_ret
         exact ⟨HKD.out.on hk10 HZ9.out, by rw [HA2.out]; exact ⟨by rw [HS.out]; rfl, HD9.out.kp hk10⟩⟩
        ·have b3 : (k == 3) = false := beq_eq_false_iff_ne.2 h3
         have HS : Hid (toldS k ⟨0, ak, av, true⟩ = wordsF [ak, av] []) := hide (by rw [toldS, if_neg hk, if_neg h6, if_neg (by simp), if_neg (fun h => h.elim h2 h3)])
         go_wp2_with fail
         refine (words_any [ak, av] _ [] _ (RD.block (l := [ak, av]) (heap_alloc_new w9 _) rfl (by simp [maxLen])) (by simp) (fun x hx => by
          rcases List.mem_cons.1 hx with rfl | hx
          ·exact HI.out.1
          ·rcases List.mem_cons.1 hx with rfl | hx
           ·exact HI.out.2
           ·cases hx) (HTT.out.t10.kp (Kp.refl _).alloc)).mono ?_
         rintro e w10 ⟨rfl, hk10⟩
         have hk11 : Kp w9 w10 := (Kp.refl w9).alloc.trans hk10
         go_wp2
         go_ret
         exact ⟨HKD.out.on hk11 HZ9.out, by rw [HA2.out]; exact ⟨by rw [HS.out]; rfl, HD9.out.kp hk11⟩⟩
   ·have HA2 := hide (HA.out.trans (if_neg her))
    clear HA
    go_wp2_with fail
    refine (must_any er _).mono ?_
    rintro e w7' ⟨he, rfl⟩
    rw [if_neg her, slipE] at he
    subst he
    go_wp2
    exact ⟨rfl, by rw [HA2.out]; exact ⟨KD.of HK7.out HB0.out, rfl, HDS.out.kp HK7.out⟩⟩
 ·have HA : Hid (askW l ops ws = .error 1) := hide (by rw [askW, hkk, if_neg hk, if_pos hl])
  have bk1 : (k == 1) = false := beq_eq_false_iff_ne.2 hk
  obtain ⟨A, c, rfl, _, _⟩ := hrw.shape
  obtain ⟨b, o, rfl, _, x0⟩ := hrw.str (k := 0) (List.length_pos_iff.2 h0)
  rw [Nat.add_zero] at x0
  have hl0 : 0 < ws.length := List.length_pos_iff.2 h0
  have hl0i : (0 : Int) < (ws.length : Int) := by omega
  have d0 : decide (0 < ws.length) = true := decide_eq_true hl0
  have bl : ((ws.length : Int) == 2) = false := beq_eq_false_iff_ne.2 (by omega)
  obtain ⟨s0, hs0⟩ : ∃ s0, s0 = ws[0] := ⟨_, rfl⟩
  have hk' : kindOf s0 = k := by
   have e : ws.getD 0 ByteArray.empty = ws[0] := by simp [List.getD_eq_getElem?_getD, List.getElem?_eq_getElem hl0]
   rw [hs0, <- e]
   first | exact hk | exact hkk
  rw [<- hs0] at x0
  have HK : Hid (Calls Tryz.prog 36 #[.string s0] w (fun e w' => e = .returned (.tuple #[.int .i64 k, .int .i64 1]) /\ Kp w w')) := hide ((kind_any s0 w).mono (fun e w' h => by
   obtain ⟨h1, h2⟩ := h
   rw [hk'] at h1
   first | (rw [if_neg hk] at h1; exact ⟨h1, h2⟩) | (rw [if_pos rfl] at h1; exact ⟨h1, h2⟩)))
  have HDS := hide hds
  clear hrw hss hk' ht hl hs0 hl0 h64 hds hBd
  go_enter Tryz.func37, Tryz.ntmps37
  go_wp2_with fail
  refine HK.out.mono ?_
  rintro e w1 ⟨rfl, hk1⟩
  go_wp2_with fail
  refine (must_any 1 _).mono ?_
  rintro e w7' ⟨he, rfl⟩
  rw [if_neg (by decide), slipE] at he
  subst he
  go_wp2
  exact ⟨rfl, by rw [HA.out]; exact ⟨KD.of hk1 hB, rfl, HDS.out.kp hk1⟩⟩
theorem ask_any (B d : Nat) (l : List IP) (ops : List O3) (ws : List ByteArray) (vw : Value) (w : World) (hds : DS w B d l ops) (hrw : RD w eStr vw ws) (hB : B <= w.heap.size) (hBd : B <= d) (ht : TT B w) (hol : ops.length <= 1000)
  (hss : ∀ s ∈ ws, s.size <= 9223372036854775807) (hk0 : 1 <= kOf ws) (h0 : ws ≠ [])
  (h64 : ∀ k key val, In64 [(doA l k key val).2.key, (doA l k key val).2.val]) :
  Calls Tryz.prog 37 #[.pointer (some ⟨d, 0, none⟩), vw] w (LinePost B d l ops (askW l ops ws) w) := by
 by_cases hk : kOf ws = 1
 ·exact ask_put B d l ops ws vw w hds hrw hB hBd ht hol hss hk h0 h64
 ·exact ask_else B d l ops ws vw w hds hrw hB hBd ht hol hss hk hk0 h0 h64
end Go.Proofs.YtcljlnagpjilaaaGreatDoor
