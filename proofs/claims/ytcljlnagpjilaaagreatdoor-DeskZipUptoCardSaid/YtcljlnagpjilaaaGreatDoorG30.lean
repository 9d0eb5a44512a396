/-
  desk.answer: what it answers
-/
import Derived.Test.YtcljlnagpjilaaaGreatDoorG29
import Derived.Test.YtcljlnagpjilaaaGreatDoorG17

set_option linter.unusedVariables false
set_option linter.unusedSimpArgs false
set_option maxRecDepth 100000
set_option maxHeartbeats 8000000
namespace Go.Proofs.YtcljlnagpjilaaaGreatDoor
open Go.ChangeShapes Go.WideShapes Go.ChangeAt Go.RowKit
def rowsB : By := [114, 111, 119, 115]
def pathB : By := [112, 97, 116, 104]
def treeB : By := [116, 114, 101, 101]
def deepB : By := [100, 101, 101, 112]
def lineS (ks : List Int) (ops : List O3) (ws : List ByteArray) : Except Int By :=
 if wAt ws 0 = rowsB /\ ws.length = 1 then rowsS ks
 else if ws.length ≠ 2 then .error 1
 else if wAt ws 0 = pathB then (match numF (wAt ws 1) with | none => .error 1 | some n => pathS ks n)
 else if wAt ws 0 = treeB then (match treeS ks ops (wAt ws 1) with | .error e => .error e | .ok t => if (orderOf t 1).2 = 0 then .ok (wordsF (orderOf t 1).1 noneB) else .error (orderOf t 1).2)
 else if wAt ws 0 = deepB then (match treeS ks ops (wAt ws 1) with | .error e => .error e | .ok t => if (sumOf t).2.2 = 0 then .ok (if (sumOf t).1 < 0 then noneB else Lib.itoa (sumOf t).1) else .error (sumOf t).2.2)
 else .error 1
def ansW (l : List IP) (ops : List O3) (ws : List ByteArray) : List IP × List O3 × By :=
 if 0 < kOf ws then (match askW l ops ws with | .ok x => x | .error e => (l, ops, errB e))
 else (l, ops, match lineS (l.map Prod.fst) ops ws with | .ok s => s | .error e => errB e)
structure LnOk (l : List IP) (ops : List O3) : Prop where
 many : ops.length <= 1000
 len : l.length <= 1000000
 ask : ∀ k key val, In64 [(doA l k key val).2.key, (doA l k key val).2.val]
 err : ∀ k key val, -9223372036854775808 <= (doA l k key val).2.err /\ (doA l k key val).2.err <= 9223372036854775807
 path : ∀ key, (pathOf (l.map Prod.fst) key).1.length <= 1000000 /\ In64 ((pathOf (l.map Prod.fst) key).1.map Prod.snd)
 rows : (rowsOf (l.map Prod.fst)).1.length <= 1000 /\ ∀ r ∈ (rowsOf (l.map Prod.fst)).1, r.length <= 1000000 /\ In64 r
 tree : ∀ s t, treeS (l.map Prod.fst) ops s = .ok t -> (orderOf t 1).1.length <= 1000000 /\ In64 (orderOf t 1).1 /\ In64 [(sumOf t).1]
 line : ∀ ws e, lineS (l.map Prod.fst) ops ws = .error e -> -9223372036854775808 <= e /\ e <= 9223372036854775807
def AnsPost (B d : Nat) (x : List IP × List O3 × By) (w : World) (e : Ending) (w' : World) : Prop := e = .returned (.string (bs x.2.2)) /\ KD B d w w' /\ DS w' B d x.1 x.2.1
theorem askW_err {l : List IP} {ops : List O3} {ws : List ByteArray} {er : Int} (h : ∀ k key val, -9223372036854775808 <= (doA l k key val).2.err /\ (doA l k key val).2.err <= 9223372036854775807) (hr : askW l ops ws = .error er) : -9223372036854775808 <= er /\ er <= 9223372036854775807 := by
 have ho : ∀ k key val, askO l ops k key val = .error er -> -9223372036854775808 <= er /\ er <= 9223372036854775807 := fun k key val ho => by
  unfold askO at ho
  split at ho
  ·cases ho
  ·injection ho with ho
   rw [<- ho]; exact h k key val
 have h1 : (Except.error 1 : DkR) = .error er -> -9223372036854775808 <= er /\ er <= 9223372036854775807 := fun e => by
  injection e with e; rw [<- e]; decide
 unfold askW at hr
 split at hr
 ·split at hr
  ·exact h1 hr
  ·split at hr
   ·exact h1 hr
   ·split at hr
    ·exact h1 hr
    ·exact ho _ _ _ hr
 ·split at hr
  ·exact h1 hr
  ·split at hr
   ·exact h1 hr
   ·exact ho _ _ _ hr
theorem KD.setN {B d g j : Nat} {w w' : World} {u : Value} (k : KD B d w w') (hg : w.heap.size <= g) (hB : B <= w.heap.size) : KD B d w (w'.setCell ⟨g, j, none⟩ u) := by
 refine ⟨fun i x hi hb hx => ?_, k.2.setCell (Nat.le_trans hB hg) _⟩
 have hlt := (Array.getElem?_eq_some_iff.1 hi).1
 rw [Below.heap_setCell _ _ _ _ (show i ≠ g by omega)]
 exact k.1 i x hi hb hx
theorem DS.setS {w : World} {B d g j : Nat} {l : List IP} {ops : List O3} {cs : List Value} {u : Value} (h : DS w B d l ops) (hb : BC w g 9 cs) : DS (w.setCell ⟨g, j, none⟩ u) B d l ops := by
 obtain ⟨v, x, h1, h2, h3⟩ := h
 exact ⟨v, x, h1.far (h1.ne hb (by decide)), h2.setCell (h2.bc_ne hb (by decide)) _, h3.setCell (h3.bc_ne hb (by decide)) _⟩
theorem door_ret {R : Ending -> World -> Prop} {t : Array Value} {g : Nat} {s : ByteArray} {w : World} (h4 : t[4]? = some (.pointer (some ⟨g, 0, none⟩))) (hc : w.cell? ⟨g, 0, none⟩ = some (.string s)) (hR : R (.returned (.string s)) w) :
  bodyPostD Tryz.prog Tryz.f20 R .ret { tmps := t, defers := [{ target := .fn (.func 34) #[.pointer (some ⟨g, 0, none⟩)], args := #[] }] } w := by
 show Leaves _ _ _ _ _ _ _
 refine leaves_cons (f := 34) (args := #[.pointer (some ⟨g, 0, none⟩)]) (by simp) (by simp [go_sem]) ?_
 refine (ans1_idle _ _).mono ?_
 rintro e u' w'' ⟨rfl, rfl, rfl⟩
 have h4' : t.getD 4 undef = .pointer (some ⟨g, 0, none⟩) := by simp [Array.getD_eq_getD_getElem?, h4]
 refine ⟨.string s, ?_, hR⟩
 simp [results, Tryz.results20, h4, h4', hc, go_sem]
theorem door_slip {R : Ending -> World -> Prop} {t : Array Value} {g : Nat} {k : Int} {x : Value} {w : World} (h4 : t[4]? = some (.pointer (some ⟨g, 0, none⟩))) (hc : w.cell? ⟨g, 0, none⟩ = some x) (hz : w.frozen? ⟨g, 0, none⟩ = false) (ht : T10 w)
  (hk : -9223372036854775808 <= k /\ k <= 9223372036854775807) (hR : ∀ w1, Kp w w1 -> R (.returned (.string (bs (errB k)))) (w1.setCell ⟨g, 0, none⟩ (.string (bs (errB k))))) :
  bodyPostD Tryz.prog Tryz.f20 R (.panic [{ v := .iface 63 (.agg #[.int .i64 k]), recovered := false }]) { tmps := t, defers := [{ target := .fn (.func 34) #[.pointer (some ⟨g, 0, none⟩)], args := #[] }] } w := by
 show Leaves _ _ _ _ _ _ _
 refine leaves_cons (f := 34) (args := #[.pointer (some ⟨g, 0, none⟩)]) (by simp) (by simp [go_sem]) ?_
 refine (ans1_slip ⟨g, 0, none⟩ k x w hk hc hz ht).mono ?_
 rintro e u' w'' ⟨rfl, rfl, w1, k1, rfl⟩
 have h4' : t.getD 4 undef = .pointer (some ⟨g, 0, none⟩) := by simp [Array.getD_eq_getD_getElem?, h4]
 refine ⟨.string (bs (errB k)), ?_, hR w1 k1⟩
 have hc1 := k1.cell hc
 simp [results, Tryz.results20, h4, h4', hc1, go_sem]
theorem answer_ask (B d : Nat) (l : List IP) (ops : List O3) (ws : List ByteArray) (vw : Value) (w : World) (hds : DS w B d l ops) (hrw : RD w eStr vw ws) (hB : B <= w.heap.size) (hBd : B <= d) (ht : TT B w)
  (hss : ∀ s ∈ ws, s.size <= 9223372036854775807) (h0 : ws ≠ []) (hok : LnOk l ops) (hk : 0 < kOf ws) :
  Calls Tryz.prog 20 #[.pointer (some ⟨d, 0, none⟩), vw] w (AnsPost B d (ansW l ops ws) w) := by
 have hmf : ∀ (fn : Fn) (first cap : Array Value) (w : World), (Instr.makeFunc fn first cap).run Tryz.prog w = .ok (.func fn first cap) w := fun _ _ _ _ => rfl
 obtain ⟨W1, hW1⟩ : ∃ W1, W1 = w.alloc (.cells #[.string ⟨#[]⟩] 9) := ⟨_, rfl⟩
 have hk1 : Kp w W1 := by rw [hW1]; exact (Kp.refl w).alloc
 have hb1 : BC W1 w.heap.size 9 [.string ⟨#[]⟩] := by rw [hW1]; exact BC.new w _ _
 have HASK := hide (fun W (k : Kp W1 W) => ask_any B d l ops ws vw W ((hds.kp hk1).kp k) ((hrw.kp hk1).kp k) (Nat.le_trans hB (hk1.trans k).size) hBd (ht.go ((hk1.trans k).bel.mono hB)) hok.many hss (by omega) h0 hok.ask)
 obtain ⟨A, c, rfl, _, _⟩ := hrw.shape
 obtain ⟨b, o, rfl, _, x0⟩ := hrw.str (k := 0) (List.length_pos_iff.2 h0)
 rw [Nat.add_zero] at x0
 have hl0 : 0 < ws.length := List.length_pos_iff.2 h0
 have hl0i : (0 : Int) < (ws.length : Int) := by omega
 obtain ⟨s0, hs0⟩ : ∃ s0, s0 = ws[0] := ⟨_, rfl⟩
 obtain ⟨k, hkk⟩ : ∃ k, k = kOf ws := ⟨_, rfl⟩
 have hk' : kindOf s0 = k := by
  have e : ws.getD 0 ByteArray.empty = ws[0] := by simp [List.getD_eq_getElem?_getD, List.getElem?_eq_getElem hl0]
  rw [hs0, <- e, hkk, kOf]
 rw [<- hs0] at x0
 have x1 := hk1.cell x0
 rw [hW1] at x1
 have HK : Hid (Calls Tryz.prog 36 #[.string s0] W1 (fun e w' => e = .returned (.tuple #[.int .i64 k, .int .i64 (if k = 1 then 2 else 1)]) /\ Kp W1 w')) := hide ((kind_any s0 W1).mono (fun e w' h => by
  obtain ⟨h1, h2⟩ := h
  rw [hk'] at h1
  exact ⟨h1, h2⟩))
 obtain ⟨m, hm⟩ : ∃ m : Int, m = (if k = 1 then 2 else 1) := ⟨_, rfl⟩
 rw [<- hm] at HK
 clear hm
 have hkp : 0 < k := by rw [hkk]; exact hk
 have dk : decide (0 < k) = true := decide_eq_true hkp
 have HDS := hide (hds.kp hk1)
 have HT := hide (ht.go (hk1.bel.mono hB))
 clear hrw hss hk' ht hs0 hl0 hds hkk x0
 go_enter_defers Tryz.func20, Tryz.ntmps20
 go_wp2_with fail
 rw [<- hW1]
 refine HK.out.mono ?_
 rintro e w2 ⟨rfl, hk2⟩
 go_wp2_with fail
 refine (HASK.out w2 hk2).mono ?_
 rintro e w3 ⟨hkd, he⟩
 cases hr : askW l ops ws with
 | ok x =>
  rw [hr] at he
  obtain ⟨rfl, hds3⟩ := he
  have hb3 := hkd.bc (hb1.kp hk2) (hb1.ne HDS.out.choose_spec.choose_spec.1 (by decide)) (by decide)
  have c3 := hb3.cell 0
  have f3 := hb3.frozen 0
  have HA : Hid (ansW l ops ws = x) := hide (by rw [ansW, if_pos hk, hr])
  have HR := hide (And.intro hkd (And.intro hds3 hb3))
  clear hkd hds3 hb3 hr
  go_wp2
  refine door_ret rfl (by have := (HR.out.2.2.set (j := 0) (u := .string (bs x.2.2))).cell 0; exact this) ?_
  rw [HA.out]
  exact ⟨rfl, ((KD.of (hk1.trans hk2) hB).trans HR.out.1).setN (Nat.le_refl _) hB, HR.out.2.1.setS HR.out.2.2⟩
 | error er =>
  rw [hr] at he
  obtain ⟨rfl, hds3⟩ := he
  rw [slipE]
  have hb3 := hkd.bc (hb1.kp hk2) (hb1.ne HDS.out.choose_spec.choose_spec.1 (by decide)) (by decide)
  have HA : Hid (ansW l ops ws = (l, ops, errB er)) := hide (by rw [ansW, if_pos hk, hr])
  have HR := hide (And.intro hkd (And.intro hds3 hb3))
  have her : -9223372036854775808 <= er /\ er <= 9223372036854775807 := askW_err hok.err hr
  clear hkd hds3 hb3 hr
  go_wp2
  refine door_slip rfl (HR.out.2.2.cell 0) (HR.out.2.2.frozen 0) (HT.out.go (((KD.of hk2 (Nat.le_trans hB hk1.size)).trans HR.out.1).2)).t10 her (fun w4 k4 => ?_)
  rw [HA.out]
  exact ⟨rfl, (((KD.of (hk1.trans hk2) hB).trans HR.out.1).on k4 (Nat.le_trans hB (Nat.le_trans (hk1.trans hk2).size (Nat.le_of_lt_succ (Nat.lt_succ_of_le HR.out.1.2.size))))).setN (Nat.le_refl _) hB, (HR.out.2.1.kp k4).setS (HR.out.2.2.kp k4)⟩
theorem answer_rows (B d : Nat) (l : List IP) (ops : List O3) (ws : List ByteArray) (vw : Value) (w : World) (hds : DS w B d l ops) (hrw : RD w eStr vw ws) (hB : B <= w.heap.size) (hBd : B <= d) (ht : TT B w)
  (hss : ∀ s ∈ ws, s.size <= 9223372036854775807) (h0 : ws ≠ []) (hok : LnOk l ops) (hk : kOf ws = 0) (h1 : wAt ws 0 = rowsB) (hl : ws.length = 1) :
  Calls Tryz.prog 20 #[.pointer (some ⟨d, 0, none⟩), vw] w (AnsPost B d (ansW l ops ws) w) := by
 have hmf : ∀ (fn : Fn) (first cap : Array Value) (w : World), (Instr.makeFunc fn first cap).run Tryz.prog w = .ok (.func fn first cap) w := fun _ _ _ _ => rfl
 obtain ⟨W1, hW1⟩ : ∃ W1, W1 = w.alloc (.cells #[.string ⟨#[]⟩] 9) := ⟨_, rfl⟩
 have hk1 : Kp w W1 := by rw [hW1]; exact (Kp.refl w).alloc
 have hb1 : BC W1 w.heap.size 9 [.string ⟨#[]⟩] := by rw [hW1]; exact BC.new w _ _
 obtain ⟨A, c, rfl, _, _⟩ := hrw.shape
 obtain ⟨b, o, rfl, _, x0⟩ := hrw.str (k := 0) (List.length_pos_iff.2 h0)
 rw [Nat.add_zero] at x0
 have hl0 : 0 < ws.length := List.length_pos_iff.2 h0
 have hl0i : (0 : Int) < (ws.length : Int) := by omega
 obtain ⟨s0, hs0⟩ : ∃ s0, s0 = ws[0] := ⟨_, rfl⟩
 have hse : ws.getD 0 ByteArray.empty = ws[0] := by simp [List.getD_eq_getElem?_getD, List.getElem?_eq_getElem hl0]
 have hk' : kindOf s0 = 0 := by rw [hs0, <- hse, <- hk, kOf]
 have hw0 : s0.toList = wAt ws 0 := by rw [ByteArray.toList_eq, hs0, wAt, hse]
 rw [<- hs0] at x0
 have x1 := hk1.cell x0
 rw [hW1] at x1
 have HX0 := hide (hk1.cell x0)
 have HK : Hid (Calls Tryz.prog 36 #[.string s0] W1 (fun e w' => e = .returned (.tuple #[.int .i64 0, .int .i64 1]) /\ Kp W1 w')) := hide ((kind_any s0 W1).mono (fun e w' h => by
  obtain ⟨h1, h2⟩ := h
  rw [hk', if_neg (by decide)] at h1
  exact ⟨h1, h2⟩))
 have HDS := hide (hds.kp hk1)
 have HT := hide (ht.go (hk1.bel.mono hB))
 have HA0 : Hid (ansW l ops ws = (l, ops, match lineS (l.map Prod.fst) ops ws with | .ok s => s | .error e => errB e)) := hide (by rw [ansW, if_neg (by omega)])
 have HRW := hide hrw
 have b0 : (s0.toList == [114, 111, 119, 115]) = true := beq_iff_eq.2 (hw0.trans h1)
 have bl1 : ((ws.length : Int) == 1) = true := beq_iff_eq.2 (by omega)
 have HLS : Hid (lineS (l.map Prod.fst) ops ws = rowsS (l.map Prod.fst)) := hide (by rw [lineS, if_pos ⟨h1, hl⟩])
 obtain ⟨v, u, q0, q1, q2⟩ := id HDS.out
 have HRO := hide (fun W (k : Kp W1 W) => deskRows_any d l v W ((k.cell (q0.cell 0))) (q1.rd.kp k) hok.len (HT.out.go (k.bel.mono (Nat.le_trans hB hk1.size))).db (HT.out.go (k.bel.mono (Nat.le_trans hB hk1.size))).t10 hok.rows.1 hok.rows.2)
 clear q0 q1 q2 hl hw0 h1
 clear hrw hk' ht hs0 hds x0 hse hl0
 go_enter_defers Tryz.func20, Tryz.ntmps20
 go_wp2_with fail
 rw [<- hW1]
 refine HK.out.mono ?_
 rintro e w2 ⟨rfl, hk2⟩
 have x2 := hk2.cell HX0.out
 go_wp2_with fail
 refine (HRO.out w2 hk2).mono ?_
 rintro e w3 ⟨he, hk3⟩
 cases hr : rowsS (l.map Prod.fst) with
 | ok s =>
  rw [hr] at he
  simp only at he
  subst he
  have HA : Hid (ansW l ops ws = (l, ops, s)) := hide (by rw [HA0.out, HLS.out, hr])
  clear hr
  have hb3 := (hb1.kp hk2).kp hk3
  have c3 := hb3.cell 0
  have f3 := hb3.frozen 0
  have HR3 := hide (And.intro ((HDS.out.kp hk2).kp hk3) hb3)
  have HK3 := hide ((hk1.trans hk2).trans hk3)
  clear hb3
  go_wp2
  refine door_ret rfl (by have := (HR3.out.2.set (j := 0) (u := .string (bs (s)))).cell 0; exact this) ?_
  rw [HA.out]
  exact ⟨rfl, (KD.of HK3.out hB).setN (Nat.le_refl _) hB, HR3.out.1.setS HR3.out.2⟩
 | error er =>
  have her := hok.line ws er (by rw [HLS.out, hr])
  rw [hr] at he
  simp only at he
  subst he
  rw [slipE]
  have HA : Hid (ansW l ops ws = (l, ops, errB er)) := hide (by rw [HA0.out, HLS.out, hr])
  clear hr
  have hb3 := (hb1.kp hk2).kp hk3
  have HR3 := hide (And.intro ((HDS.out.kp hk2).kp hk3) hb3)
  have HK3 := hide ((hk1.trans hk2).trans hk3)
  clear hb3
  go_wp2
  refine door_slip rfl (HR3.out.2.cell 0) (HR3.out.2.frozen 0) (HT.out.t10.kp (hk2.trans hk3)) her (fun w4 k4 => ?_)
  rw [HA.out]
  exact ⟨rfl, ((KD.of HK3.out hB).on k4 (Nat.le_trans hB HK3.out.size)).setN (Nat.le_refl _) hB, (HR3.out.1.kp k4).setS (HR3.out.2.kp k4)⟩
theorem answer_len (B d : Nat) (l : List IP) (ops : List O3) (ws : List ByteArray) (vw : Value) (w : World) (hds : DS w B d l ops) (hrw : RD w eStr vw ws) (hB : B <= w.heap.size) (hBd : B <= d) (ht : TT B w)
  (hss : ∀ s ∈ ws, s.size <= 9223372036854775807) (h0 : ws ≠ []) (hok : LnOk l ops) (hk : kOf ws = 0) (h1 : ¬ (wAt ws 0 = rowsB /\ ws.length = 1)) (hl : ws.length ≠ 2) :
  Calls Tryz.prog 20 #[.pointer (some ⟨d, 0, none⟩), vw] w (AnsPost B d (ansW l ops ws) w) := by
 have hmf : ∀ (fn : Fn) (first cap : Array Value) (w : World), (Instr.makeFunc fn first cap).run Tryz.prog w = .ok (.func fn first cap) w := fun _ _ _ _ => rfl
 obtain ⟨W1, hW1⟩ : ∃ W1, W1 = w.alloc (.cells #[.string ⟨#[]⟩] 9) := ⟨_, rfl⟩
 have hk1 : Kp w W1 := by rw [hW1]; exact (Kp.refl w).alloc
 have hb1 : BC W1 w.heap.size 9 [.string ⟨#[]⟩] := by rw [hW1]; exact BC.new w _ _
 obtain ⟨A, c, rfl, _, _⟩ := hrw.shape
 obtain ⟨b, o, rfl, _, x0⟩ := hrw.str (k := 0) (List.length_pos_iff.2 h0)
 rw [Nat.add_zero] at x0
 have hl0 : 0 < ws.length := List.length_pos_iff.2 h0
 have hl0i : (0 : Int) < (ws.length : Int) := by omega
 obtain ⟨s0, hs0⟩ : ∃ s0, s0 = ws[0] := ⟨_, rfl⟩
 have hse : ws.getD 0 ByteArray.empty = ws[0] := by simp [List.getD_eq_getElem?_getD, List.getElem?_eq_getElem hl0]
 have hk' : kindOf s0 = 0 := by rw [hs0, <- hse, <- hk, kOf]
 have hw0 : s0.toList = wAt ws 0 := by rw [ByteArray.toList_eq, hs0, wAt, hse]
 rw [<- hs0] at x0
 have x1 := hk1.cell x0
 rw [hW1] at x1
 have HX0 := hide (hk1.cell x0)
 have HK : Hid (Calls Tryz.prog 36 #[.string s0] W1 (fun e w' => e = .returned (.tuple #[.int .i64 0, .int .i64 1]) /\ Kp W1 w')) := hide ((kind_any s0 W1).mono (fun e w' h => by
  obtain ⟨h1, h2⟩ := h
  rw [hk', if_neg (by decide)] at h1
  exact ⟨h1, h2⟩))
 have HDS := hide (hds.kp hk1)
 have HT := hide (ht.go (hk1.bel.mono hB))
 have HA0 : Hid (ansW l ops ws = (l, ops, match lineS (l.map Prod.fst) ops ws with | .ok s => s | .error e => errB e)) := hide (by rw [ansW, if_neg (by omega)])
 have HRW := hide hrw
 have HA : Hid (ansW l ops ws = (l, ops, errB 1)) := hide (by rw [HA0.out, lineS, if_neg h1, if_pos hl])
 have bl2 : ((ws.length : Int) == 2) = false := beq_eq_false_iff_ne.2 (by omega)
 by_cases h2 : wAt ws 0 = rowsB
 ·have b0 : (s0.toList == [114, 111, 119, 115]) = true := beq_iff_eq.2 (hw0.trans h2)
  have bl1 : ((ws.length : Int) == 1) = false := beq_eq_false_iff_ne.2 (fun e => h1 ⟨h2, by omega⟩)
  clear hl hw0 h1 h2
  clear hrw hk' ht hs0 hds x0 hse hl0
  go_enter_defers Tryz.func20, Tryz.ntmps20
  go_wp2_with fail
  rw [<- hW1]
  refine HK.out.mono ?_
  rintro e w2 ⟨rfl, hk2⟩
  have x2 := hk2.cell HX0.out
  go_wp2_with fail
  refine (must_any 1 _).mono ?_
  rintro e w3 ⟨he, rfl⟩
  rw [if_neg (by decide), slipE] at he
  subst he
  have hb3 := (hb1.kp hk2).kp (Kp.refl w2)
  have HR3 := hide (And.intro ((HDS.out.kp hk2).kp (Kp.refl w2)) hb3)
  have HK3 := hide ((hk1.trans hk2).trans (Kp.refl w2))
  clear hb3
  go_wp2
  refine door_slip rfl (HR3.out.2.cell 0) (HR3.out.2.frozen 0) (HT.out.t10.kp (hk2.trans (Kp.refl w2))) (by decide) (fun w4 k4 => ?_)
  rw [HA.out]
  exact ⟨rfl, ((KD.of HK3.out hB).on k4 (Nat.le_trans hB HK3.out.size)).setN (Nat.le_refl _) hB, (HR3.out.1.kp k4).setS (HR3.out.2.kp k4)⟩
 ·have b0 : (s0.toList == [114, 111, 119, 115]) = false := beq_eq_false_iff_ne.2 (fun e => h2 (hw0.symm.trans e))
  clear hl hw0 h1 h2
  clear hrw hk' ht hs0 hds x0 hse hl0
  go_enter_defers Tryz.func20, Tryz.ntmps20
  go_wp2_with fail
  rw [<- hW1]
  refine HK.out.mono ?_
  rintro e w2 ⟨rfl, hk2⟩
  have x2 := hk2.cell HX0.out
  go_wp2_with fail
  refine (must_any 1 _).mono ?_
  rintro e w3 ⟨he, rfl⟩
  rw [if_neg (by decide), slipE] at he
  subst he
  have hb3 := (hb1.kp hk2).kp (Kp.refl w2)
  have HR3 := hide (And.intro ((HDS.out.kp hk2).kp (Kp.refl w2)) hb3)
  have HK3 := hide ((hk1.trans hk2).trans (Kp.refl w2))
  clear hb3
  go_wp2
  refine door_slip rfl (HR3.out.2.cell 0) (HR3.out.2.frozen 0) (HT.out.t10.kp (hk2.trans (Kp.refl w2))) (by decide) (fun w4 k4 => ?_)
  rw [HA.out]
  exact ⟨rfl, ((KD.of HK3.out hB).on k4 (Nat.le_trans hB HK3.out.size)).setN (Nat.le_refl _) hB, (HR3.out.1.kp k4).setS (HR3.out.2.kp k4)⟩
theorem answer_path (B d : Nat) (l : List IP) (ops : List O3) (ws : List ByteArray) (vw : Value) (w : World) (hds : DS w B d l ops) (hrw : RD w eStr vw ws) (hB : B <= w.heap.size) (hBd : B <= d) (ht : TT B w)
  (hss : ∀ s ∈ ws, s.size <= 9223372036854775807) (h0 : ws ≠ []) (hok : LnOk l ops) (hk : kOf ws = 0) (hl : ws.length = 2) (h1 : wAt ws 0 = pathB) :
  Calls Tryz.prog 20 #[.pointer (some ⟨d, 0, none⟩), vw] w (AnsPost B d (ansW l ops ws) w) := by
 have hmf : ∀ (fn : Fn) (first cap : Array Value) (w : World), (Instr.makeFunc fn first cap).run Tryz.prog w = .ok (.func fn first cap) w := fun _ _ _ _ => rfl
 obtain ⟨W1, hW1⟩ : ∃ W1, W1 = w.alloc (.cells #[.string ⟨#[]⟩] 9) := ⟨_, rfl⟩
 have hk1 : Kp w W1 := by rw [hW1]; exact (Kp.refl w).alloc
 have hb1 : BC W1 w.heap.size 9 [.string ⟨#[]⟩] := by rw [hW1]; exact BC.new w _ _
 obtain ⟨A, c, rfl, _, _⟩ := hrw.shape
 obtain ⟨b, o, rfl, _, x0⟩ := hrw.str (k := 0) (List.length_pos_iff.2 h0)
 rw [Nat.add_zero] at x0
 have hl0 : 0 < ws.length := List.length_pos_iff.2 h0
 have hl0i : (0 : Int) < (ws.length : Int) := by omega
 obtain ⟨s0, hs0⟩ : ∃ s0, s0 = ws[0] := ⟨_, rfl⟩
 have hse : ws.getD 0 ByteArray.empty = ws[0] := by simp [List.getD_eq_getElem?_getD, List.getElem?_eq_getElem hl0]
 have hk' : kindOf s0 = 0 := by rw [hs0, <- hse, <- hk, kOf]
 have hw0 : s0.toList = wAt ws 0 := by rw [ByteArray.toList_eq, hs0, wAt, hse]
 rw [<- hs0] at x0
 have x1 := hk1.cell x0
 rw [hW1] at x1
 have HX0 := hide (hk1.cell x0)
 have HK : Hid (Calls Tryz.prog 36 #[.string s0] W1 (fun e w' => e = .returned (.tuple #[.int .i64 0, .int .i64 1]) /\ Kp W1 w')) := hide ((kind_any s0 W1).mono (fun e w' h => by
  obtain ⟨h1, h2⟩ := h
  rw [hk', if_neg (by decide)] at h1
  exact ⟨h1, h2⟩))
 have HDS := hide (hds.kp hk1)
 have HT := hide (ht.go (hk1.bel.mono hB))
 have HA0 : Hid (ansW l ops ws = (l, ops, match lineS (l.map Prod.fst) ops ws with | .ok s => s | .error e => errB e)) := hide (by rw [ansW, if_neg (by omega)])
 have HRW := hide hrw
 obtain ⟨_, _, e1, _, y1⟩ := HRW.out.str (k := 1) (by omega)
 injection e1 with e1
 injection e1 with e1 e2
 subst e1 e2
 obtain ⟨s1, hs1⟩ : ∃ s1, s1 = ws[1] := ⟨_, rfl⟩
 rw [<- hs1] at y1
 have hw1 : s1.data.toList = wAt ws 1 := by
  rw [hs1, wAt]
  simp [List.getD_eq_getElem?_getD, List.getElem?_eq_getElem (show 1 < ws.length by omega)]
 have hss1 : s1.size <= 9223372036854775807 := hss s1 (by rw [hs1]; exact List.getElem_mem _)
 have HY := hide (hk1.cell y1)
 have bl2 : ((ws.length : Int) == 2) = true := beq_iff_eq.2 (by omega)
 have hl1i : (1 : Int) < (ws.length : Int) := by omega
 have bl1 : ((ws.length : Int) == 1) = false := beq_eq_false_iff_ne.2 (by omega)
 have hnr : ¬ (wAt ws 0 = rowsB /\ ws.length = 1) := fun e => by omega
 have hn2 : ¬ ws.length ≠ 2 := fun e => e hl
 have b0 : (s0.toList == [114, 111, 119, 115]) = false := beq_eq_false_iff_ne.2 (fun e => by rw [hw0, h1] at e; exact absurd e (by decide))
 have b1 : (s0.toList == [112, 97, 116, 104]) = true := beq_iff_eq.2 (hw0.trans h1)
 have HLS : Hid (lineS (l.map Prod.fst) ops ws = match numF (wAt ws 1) with | none => .error 1 | some n => pathS (l.map Prod.fst) n) := hide (by rw [lineS, if_neg hnr, if_neg hn2, if_pos h1])
 obtain ⟨v, u, q0, q1, q2⟩ := id HDS.out
 have HRO := hide (fun n W (k : Kp W1 W) => deskPath_any d l n v W ((k.cell (q0.cell 0))) (q1.rd.kp k) hok.len (HT.out.go (k.bel.mono (Nat.le_trans hB hk1.size))).db (HT.out.go (k.bel.mono (Nat.le_trans hB hk1.size))).t10 (hok.path n).1 (hok.path n).2)
 have HNU := hide (fun W => number_any s1 W hss1)
 rw [<- hw1] at HLS
 clear q0 q1 q2 hl hw0 h1 hw1 hs1 hnr hn2 y1 hss1
 clear hrw hk' ht hs0 hds x0 hse hl0
 go_enter_defers Tryz.func20, Tryz.ntmps20
 go_wp2_with fail
 rw [<- hW1]
 refine HK.out.mono ?_
 rintro e w2 ⟨rfl, hk2⟩
 have x2 := hk2.cell HX0.out
 have y2 := hk2.cell HY.out
 go_wp2_with fail
 refine (HNU.out w2).mono ?_
 rintro e w3 ⟨he, hk3⟩
 cases hn : numF s1.data.toList with
 | none =>
  rw [hn] at he HLS
  simp only at he
  subst he
  rw [slipE]
  have HA : Hid (ansW l ops ws = (l, ops, errB 1)) := hide (by rw [HA0.out, HLS.out])
  clear hn
  have hb3 := (hb1.kp hk2).kp hk3
  have HR3 := hide (And.intro ((HDS.out.kp hk2).kp hk3) hb3)
  have HK3 := hide ((hk1.trans hk2).trans hk3)
  clear hb3
  go_wp2
  refine door_slip rfl (HR3.out.2.cell 0) (HR3.out.2.frozen 0) (HT.out.t10.kp (hk2.trans hk3)) (by decide) (fun w4 k4 => ?_)
  rw [HA.out]
  exact ⟨rfl, ((KD.of HK3.out hB).on k4 (Nat.le_trans hB HK3.out.size)).setN (Nat.le_refl _) hB, (HR3.out.1.kp k4).setS (HR3.out.2.kp k4)⟩
 | some n =>
  rw [hn] at he HLS
  simp only at he HLS
  subst he
  clear hn
  go_wp2_with fail
  refine (HRO.out n w3 (hk2.trans hk3)).mono ?_
  rintro e w4 ⟨he, hk4⟩
  have hk34 := hk3.trans hk4
  cases hr : pathS (l.map Prod.fst) n with
  | ok s =>
   rw [hr] at he
   simp only at he
   subst he
   have HA : Hid (ansW l ops ws = (l, ops, s)) := hide (by rw [HA0.out, HLS.out, hr])
   clear hr
   have hb3 := (hb1.kp hk2).kp hk34
   have c3 := hb3.cell 0
   have f3 := hb3.frozen 0
   have HR3 := hide (And.intro ((HDS.out.kp hk2).kp hk34) hb3)
   have HK3 := hide ((hk1.trans hk2).trans hk34)
   clear hb3
   go_wp2
   refine door_ret rfl (by have := (HR3.out.2.set (j := 0) (u := .string (bs (s)))).cell 0; exact this) ?_
   rw [HA.out]
   exact ⟨rfl, (KD.of HK3.out hB).setN (Nat.le_refl _) hB, HR3.out.1.setS HR3.out.2⟩
  | error er =>
   have her := hok.line ws er (by rw [HLS.out, hr])
   rw [hr] at he
   simp only at he
   subst he
   rw [slipE]
   have HA : Hid (ansW l ops ws = (l, ops, errB er)) := hide (by rw [HA0.out, HLS.out, hr])
   clear hr
   have hb3 := (hb1.kp hk2).kp hk34
   have HR3 := hide (And.intro ((HDS.out.kp hk2).kp hk34) hb3)
   have HK3 := hide ((hk1.trans hk2).trans hk34)
   clear hb3
   go_wp2
   refine door_slip rfl (HR3.out.2.cell 0) (HR3.out.2.frozen 0) (HT.out.t10.kp (hk2.trans hk34)) her (fun w4 k4 => ?_)
   rw [HA.out]
   exact ⟨rfl, ((KD.of HK3.out hB).on k4 (Nat.le_trans hB HK3.out.size)).setN (Nat.le_refl _) hB, (HR3.out.1.kp k4).setS (HR3.out.2.kp k4)⟩
theorem answer_tree (B d : Nat) (l : List IP) (ops : List O3) (ws : List ByteArray) (vw : Value) (w : World) (hds : DS w B d l ops) (hrw : RD w eStr vw ws) (hB : B <= w.heap.size) (hBd : B <= d) (ht : TT B w)
  (hss : ∀ s ∈ ws, s.size <= 9223372036854775807) (h0 : ws ≠ []) (hok : LnOk l ops) (hk : kOf ws = 0) (hl : ws.length = 2) (h1 : wAt ws 0 = treeB) :
  Calls Tryz.prog 20 #[.pointer (some ⟨d, 0, none⟩), vw] w (AnsPost B d (ansW l ops ws) w) := by
 have hmf : ∀ (fn : Fn) (first cap : Array Value) (w : World), (Instr.makeFunc fn first cap).run Tryz.prog w = .ok (.func fn first cap) w := fun _ _ _ _ => rfl
 obtain ⟨W1, hW1⟩ : ∃ W1, W1 = w.alloc (.cells #[.string ⟨#[]⟩] 9) := ⟨_, rfl⟩
 have hk1 : Kp w W1 := by rw [hW1]; exact (Kp.refl w).alloc
 have hb1 : BC W1 w.heap.size 9 [.string ⟨#[]⟩] := by rw [hW1]; exact BC.new w _ _
 obtain ⟨A, c, rfl, _, _⟩ := hrw.shape
 obtain ⟨b, o, rfl, _, x0⟩ := hrw.str (k := 0) (List.length_pos_iff.2 h0)
 rw [Nat.add_zero] at x0
 have hl0 : 0 < ws.length := List.length_pos_iff.2 h0
 have hl0i : (0 : Int) < (ws.length : Int) := by omega
 obtain ⟨s0, hs0⟩ : ∃ s0, s0 = ws[0] := ⟨_, rfl⟩
 have hse : ws.getD 0 ByteArray.empty = ws[0] := by simp [List.getD_eq_getElem?_getD, List.getElem?_eq_getElem hl0]
 have hk' : kindOf s0 = 0 := by rw [hs0, <- hse, <- hk, kOf]
 have hw0 : s0.toList = wAt ws 0 := by rw [ByteArray.toList_eq, hs0, wAt, hse]
 rw [<- hs0] at x0
 have x1 := hk1.cell x0
 rw [hW1] at x1
 have HX0 := hide (hk1.cell x0)
 have HK : Hid (Calls Tryz.prog 36 #[.string s0] W1 (fun e w' => e = .returned (.tuple #[.int .i64 0, .int .i64 1]) /\ Kp W1 w')) := hide ((kind_any s0 W1).mono (fun e w' h => by
  obtain ⟨h1, h2⟩ := h
  rw [hk', if_neg (by decide)] at h1
  exact ⟨h1, h2⟩))
 have HDS := hide (hds.kp hk1)
 have HT := hide (ht.go (hk1.bel.mono hB))
 have HA0 : Hid (ansW l ops ws = (l, ops, match lineS (l.map Prod.fst) ops ws with | .ok s => s | .error e => errB e)) := hide (by rw [ansW, if_neg (by omega)])
 have HRW := hide hrw
 obtain ⟨_, _, e1, _, y1⟩ := HRW.out.str (k := 1) (by omega)
 injection e1 with e1
 injection e1 with e1 e2
 subst e1 e2
 obtain ⟨s1, hs1⟩ : ∃ s1, s1 = ws[1] := ⟨_, rfl⟩
 rw [<- hs1] at y1
 have hw1 : s1.data.toList = wAt ws 1 := by
  rw [hs1, wAt]
  simp [List.getD_eq_getElem?_getD, List.getElem?_eq_getElem (show 1 < ws.length by omega)]
 have hss1 : s1.size <= 9223372036854775807 := hss s1 (by rw [hs1]; exact List.getElem_mem _)
 have HY := hide (hk1.cell y1)
 have bl2 : ((ws.length : Int) == 2) = true := beq_iff_eq.2 (by omega)
 have hl1i : (1 : Int) < (ws.length : Int) := by omega
 have bl1 : ((ws.length : Int) == 1) = false := beq_eq_false_iff_ne.2 (by omega)
 have hnr : ¬ (wAt ws 0 = rowsB /\ ws.length = 1) := fun e => by omega
 have hn2 : ¬ ws.length ≠ 2 := fun e => e hl
 have b0 : (s0.toList == [114, 111, 119, 115]) = false := beq_eq_false_iff_ne.2 (fun e => by rw [hw0, h1] at e; exact absurd e (by decide))
 have b1 : (s0.toList == [112, 97, 116, 104]) = false := beq_eq_false_iff_ne.2 (fun e => by rw [hw0, h1] at e; exact absurd e (by decide))
 have b2 : (s0.toList == [116, 114, 101, 101]) = true := beq_iff_eq.2 (hw0.trans h1)
 have HLS : Hid (lineS (l.map Prod.fst) ops ws = match treeS (l.map Prod.fst) ops (wAt ws 1) with | .error e => .error e | .ok t => if (orderOf t 1).2 = 0 then .ok (wordsF (orderOf t 1).1 noneB) else .error (orderOf t 1).2) := hide (by rw [lineS, if_neg hnr, if_neg hn2, if_neg (by rw [h1]; decide), if_pos h1])
 obtain ⟨v, u, q0, q1, q2⟩ := id HDS.out
 have HRO := hide (fun W (k : Kp W1 W) => deskTree_any d l ops s1 v u W ((k.cell (q0.cell 0))) ((k.cell (q0.cell 1))) (q1.rd.kp k) (q2.rd.kp k) hok.len (HT.out.go (k.bel.mono (Nat.le_trans hB hk1.size))).db)
 rw [ByteArray.toList_eq, hw1] at HRO
 clear q0 q1 q2 hl hw0 h1 hw1 hs1 hnr hn2 y1 hss1
 clear hrw hk' ht hs0 hds x0 hse hl0
 go_enter_defers Tryz.func20, Tryz.ntmps20
 go_wp2_with fail
 rw [<- hW1]
 refine HK.out.mono ?_
 rintro e w2 ⟨rfl, hk2⟩
 have x2 := hk2.cell HX0.out
 have y2 := hk2.cell HY.out
 go_wp2_with fail
 refine (HRO.out w2 hk2).mono ?_
 rintro e w3 ⟨he, hk3⟩
 cases ht : treeS (l.map Prod.fst) ops (wAt ws 1) with
 | error er =>
  have her := hok.line ws er (by rw [HLS.out, ht])
  rw [ht] at he
  simp only at he
  subst he
  rw [slipE]
  have HA : Hid (ansW l ops ws = (l, ops, errB er)) := hide (by rw [HA0.out, HLS.out, ht])
  clear ht
  have hb3 := (hb1.kp hk2).kp hk3
  have HR3 := hide (And.intro ((HDS.out.kp hk2).kp hk3) hb3)
  have HK3 := hide ((hk1.trans hk2).trans hk3)
  clear hb3
  go_wp2
  refine door_slip rfl (HR3.out.2.cell 0) (HR3.out.2.frozen 0) (HT.out.t10.kp (hk2.trans hk3)) her (fun w4 k4 => ?_)
  rw [HA.out]
  exact ⟨rfl, ((KD.of HK3.out hB).on k4 (Nat.le_trans hB HK3.out.size)).setN (Nat.le_refl _) hB, (HR3.out.1.kp k4).setS (HR3.out.2.kp k4)⟩
 | ok t =>
  rw [ht] at he HLS
  simp only at he HLS
  obtain ⟨v3, rfl, hr3⟩ := he
  have HTI := hide (hok.tree _ t ht)
  have HRD := hide hr3
  obtain ⟨A3, c3', rfl, _, _⟩ := hr3.shape
  clear ht hr3
  obtain ⟨O, hO⟩ : ∃ O, orderOf t 1 = O := ⟨_, rfl⟩
  have HOR := hide (order_any t 1 _ w3 HRD.out (by decide))
  rw [hO] at HOR HLS HTI
  clear hO
  obtain ⟨ol, oe⟩ := O
  dsimp only at HLS HTI
  go_wp2_with fail
  refine HOR.out.mono ?_
  rintro e w4 ⟨v4, rfl, hr4, hb4⟩
  have hk34 := hk3.trans (Kp.of hb4)
  have HRO4 := hide hr4
  obtain ⟨A4, c4', rfl, _, _⟩ := hr4.shape
  clear hr4
  by_cases he : oe = 0
  ·subst he
   have HA : Hid (ansW l ops ws = (l, ops, wordsF ol noneB)) := hide (by rw [HA0.out, HLS.out, if_pos rfl])
   go_wp2_with fail
   refine (must_any 0 _).mono ?_
   rintro e w4' ⟨he, rfl⟩
   rw [if_pos rfl] at he
   subst he
   go_wp2_with fail
   refine (words_any ol _ noneB w4 HRO4.out HTI.out.1 HTI.out.2.1 (HT.out.t10.kp (hk2.trans hk34))).mono ?_
   rintro e w5 ⟨rfl, hk5⟩
   have hk35 := hk34.trans hk5
   have hb3 := (hb1.kp hk2).kp hk35
   have c3 := hb3.cell 0
   have f3 := hb3.frozen 0
   have HR3 := hide (And.intro ((HDS.out.kp hk2).kp hk35) hb3)
   have HK3 := hide ((hk1.trans hk2).trans hk35)
   clear hb3
   go_wp2
   refine door_ret rfl (by have := (HR3.out.2.set (j := 0) (u := .string (bs (wordsF ol noneB)))).cell 0; exact this) ?_
   rw [HA.out]
   exact ⟨rfl, (KD.of HK3.out hB).setN (Nat.le_refl _) hB, HR3.out.1.setS HR3.out.2⟩
  ·have her := hok.line ws oe (by rw [HLS.out, if_neg he])
   have HA : Hid (ansW l ops ws = (l, ops, errB oe)) := hide (by rw [HA0.out, HLS.out, if_neg he])
   go_wp2_with fail
   refine (must_any oe _).mono ?_
   rintro e w4' ⟨hm, rfl⟩
   rw [if_neg he, slipE] at hm
   subst hm
   have hb3 := (hb1.kp hk2).kp hk34
   have HR3 := hide (And.intro ((HDS.out.kp hk2).kp hk34) hb3)
   have HK3 := hide ((hk1.trans hk2).trans hk34)
   clear hb3
   go_wp2
   refine door_slip rfl (HR3.out.2.cell 0) (HR3.out.2.frozen 0) (HT.out.t10.kp (hk2.trans hk34)) her (fun w4 k4 => ?_)
   rw [HA.out]
   exact ⟨rfl, ((KD.of HK3.out hB).on k4 (Nat.le_trans hB HK3.out.size)).setN (Nat.le_refl _) hB, (HR3.out.1.kp k4).setS (HR3.out.2.kp k4)⟩
theorem answer_deep (B d : Nat) (l : List IP) (ops : List O3) (ws : List ByteArray) (vw : Value) (w : World) (hds : DS w B d l ops) (hrw : RD w eStr vw ws) (hB : B <= w.heap.size) (hBd : B <= d) (ht : TT B w)
  (hss : ∀ s ∈ ws, s.size <= 9223372036854775807) (h0 : ws ≠ []) (hok : LnOk l ops) (hk : kOf ws = 0) (hl : ws.length = 2) (h1 : wAt ws 0 = deepB) :
  Calls Tryz.prog 20 #[.pointer (some ⟨d, 0, none⟩), vw] w (AnsPost B d (ansW l ops ws) w) := by
 have hmf : ∀ (fn : Fn) (first cap : Array Value) (w : World), (Instr.makeFunc fn first cap).run Tryz.prog w = .ok (.func fn first cap) w := fun _ _ _ _ => rfl
 obtain ⟨W1, hW1⟩ : ∃ W1, W1 = w.alloc (.cells #[.string ⟨#[]⟩] 9) := ⟨_, rfl⟩
 have hk1 : Kp w W1 := by rw [hW1]; exact (Kp.refl w).alloc
 have hb1 : BC W1 w.heap.size 9 [.string ⟨#[]⟩] := by rw [hW1]; exact BC.new w _ _
 obtain ⟨A, c, rfl, _, _⟩ := hrw.shape
 obtain ⟨b, o, rfl, _, x0⟩ := hrw.str (k := 0) (List.length_pos_iff.2 h0)
 rw [Nat.add_zero] at x0
 have hl0 : 0 < ws.length := List.length_pos_iff.2 h0
 have hl0i : (0 : Int) < (ws.length : Int) := by omega
 obtain ⟨s0, hs0⟩ : ∃ s0, s0 = ws[0] := ⟨_, rfl⟩
 have hse : ws.getD 0 ByteArray.empty = ws[0] := by simp [List.getD_eq_getElem?_getD, List.getElem?_eq_getElem hl0]
 have hk' : kindOf s0 = 0 := by rw [hs0, <- hse, <- hk, kOf]
 have hw0 : s0.toList = wAt ws 0 := by rw [ByteArray.toList_eq, hs0, wAt, hse]
 rw [<- hs0] at x0
 have x1 := hk1.cell x0
 rw [hW1] at x1
 have HX0 := hide (hk1.cell x0)
 have HK : Hid (Calls Tryz.prog 36 #[.string s0] W1 (fun e w' => e = .returned (.tuple #[.int .i64 0, .int .i64 1]) /\ Kp W1 w')) := hide ((kind_any s0 W1).mono (fun e w' h => by
  obtain ⟨h1, h2⟩ := h
  rw [hk', if_neg (by decide)] at h1
  exact ⟨h1, h2⟩))
 have HDS := hide (hds.kp hk1)
 have HT := hide (ht.go (hk1.bel.mono hB))
 have HA0 : Hid (ansW l ops ws = (l, ops, match lineS (l.map Prod.fst) ops ws with | .ok s => s | .error e => errB e)) := hide (by rw [ansW, if_neg (by omega)])
 have HRW := hide hrw
 obtain ⟨_, _, e1, _, y1⟩ := HRW.out.str (k := 1) (by omega)
 injection e1 with e1
 injection e1 with e1 e2
 subst e1 e2
 obtain ⟨s1, hs1⟩ : ∃ s1, s1 = ws[1] := ⟨_, rfl⟩
 rw [<- hs1] at y1
 have hw1 : s1.data.toList = wAt ws 1 := by
  rw [hs1, wAt]
  simp [List.getD_eq_getElem?_getD, List.getElem?_eq_getElem (show 1 < ws.length by omega)]
 have hss1 : s1.size <= 9223372036854775807 := hss s1 (by rw [hs1]; exact List.getElem_mem _)
 have HY := hide (hk1.cell y1)
 have bl2 : ((ws.length : Int) == 2) = true := beq_iff_eq.2 (by omega)
 have hl1i : (1 : Int) < (ws.length : Int) := by omega
 have bl1 : ((ws.length : Int) == 1) = false := beq_eq_false_iff_ne.2 (by omega)
 have hnr : ¬ (wAt ws 0 = rowsB /\ ws.length = 1) := fun e => by omega
 have hn2 : ¬ ws.length ≠ 2 := fun e => e hl
 have b0 : (s0.toList == [114, 111, 119, 115]) = false := beq_eq_false_iff_ne.2 (fun e => by rw [hw0, h1] at e; exact absurd e (by decide))
 have b1 : (s0.toList == [112, 97, 116, 104]) = false := beq_eq_false_iff_ne.2 (fun e => by rw [hw0, h1] at e; exact absurd e (by decide))
 have b2 : (s0.toList == [116, 114, 101, 101]) = false := beq_eq_false_iff_ne.2 (fun e => by rw [hw0, h1] at e; exact absurd e (by decide))
 have b3 : (s0.toList == [100, 101, 101, 112]) = true := beq_iff_eq.2 (hw0.trans h1)
 have HLS : Hid (lineS (l.map Prod.fst) ops ws = match treeS (l.map Prod.fst) ops (wAt ws 1) with | .error e => .error e | .ok t => if (sumOf t).2.2 = 0 then .ok (if (sumOf t).1 < 0 then noneB else Lib.itoa (sumOf t).1) else .error (sumOf t).2.2) := hide (by rw [lineS, if_neg hnr, if_neg hn2, if_neg (by rw [h1]; decide), if_neg (by rw [h1]; decide), if_pos h1])
 obtain ⟨v, u, q0, q1, q2⟩ := id HDS.out
 have HRO := hide (fun W (k : Kp W1 W) => deskTree_any d l ops s1 v u W ((k.cell (q0.cell 0))) ((k.cell (q0.cell 1))) (q1.rd.kp k) (q2.rd.kp k) hok.len (HT.out.go (k.bel.mono (Nat.le_trans hB hk1.size))).db)
 rw [ByteArray.toList_eq, hw1] at HRO
 clear q0 q1 q2 hl hw0 h1 hw1 hs1 hnr hn2 y1 hss1
 clear hrw hk' ht hs0 hds x0 hse hl0
 go_enter_defers Tryz.func20, Tryz.ntmps20
 go_wp2_with fail
 rw [<- hW1]
 refine HK.out.mono ?_
 rintro e w2 ⟨rfl, hk2⟩
 have x2 := hk2.cell HX0.out
 have y2 := hk2.cell HY.out
 go_wp2_with fail
 refine (HRO.out w2 hk2).mono ?_
 rintro e w3 ⟨he, hk3⟩
 cases ht : treeS (l.map Prod.fst) ops (wAt ws 1) with
 | error er =>
  have her := hok.line ws er (by rw [HLS.out, ht])
  rw [ht] at he
  simp only at he
  subst he
  rw [slipE]
  have HA : Hid (ansW l ops ws = (l, ops, errB er)) := hide (by rw [HA0.out, HLS.out, ht])
  clear ht
  have hb3 := (hb1.kp hk2).kp hk3
  have HR3 := hide (And.intro ((HDS.out.kp hk2).kp hk3) hb3)
  have HK3 := hide ((hk1.trans hk2).trans hk3)
  clear hb3
  go_wp2
  refine door_slip rfl (HR3.out.2.cell 0) (HR3.out.2.frozen 0) (HT.out.t10.kp (hk2.trans hk3)) her (fun w4 k4 => ?_)
  rw [HA.out]
  exact ⟨rfl, ((KD.of HK3.out hB).on k4 (Nat.le_trans hB HK3.out.size)).setN (Nat.le_refl _) hB, (HR3.out.1.kp k4).setS (HR3.out.2.kp k4)⟩
 | ok t =>
  rw [ht] at he HLS
  simp only at he HLS
  obtain ⟨v3, rfl, hr3⟩ := he
  have HTI := hide (hok.tree _ t ht)
  have HRD := hide hr3
  obtain ⟨A3, c3', rfl, _, _⟩ := hr3.shape
  clear ht hr3
  obtain ⟨O, hO⟩ : ∃ O, sumOf t = O := ⟨_, rfl⟩
  have HOR := hide (sum_any t _ w3 HRD.out)
  rw [hO] at HOR HLS HTI
  clear hO
  obtain ⟨sd, sn, oe⟩ := O
  dsimp only at HLS HTI
  have HSD := hide (HTI.out.2.2 sd (by simp))
  go_wp2_with fail
  refine HOR.out.mono ?_
  rintro e w4 ⟨rfl, hb4⟩
  have hk34 := hk3.trans (Kp.of hb4)
  by_cases he : oe = 0
  ·subst he
   go_wp2_with fail
   refine (must_any 0 _).mono ?_
   rintro e w4' ⟨he, rfl⟩
   rw [if_pos rfl] at he
   subst he
   by_cases hneg : sd < 0
   ·have dn : decide (sd < 0) = true := decide_eq_true hneg
    have HA : Hid (ansW l ops ws = (l, ops, noneB)) := hide (by rw [HA0.out, HLS.out, if_pos trivial, if_pos hneg])
    have hb3 := (hb1.kp hk2).kp hk34
    have c3 := hb3.cell 0
    have f3 := hb3.frozen 0
    have HR3 := hide (And.intro ((HDS.out.kp hk2).kp hk34) hb3)
    have HK3 := hide ((hk1.trans hk2).trans hk34)
    clear hb3
    go_wp2
    refine door_ret rfl (by have := (HR3.out.2.set (j := 0) (u := .string (bs (noneB)))).cell 0; exact this) ?_
    rw [HA.out]
    exact ⟨rfl, (KD.of HK3.out hB).setN (Nat.le_refl _) hB, HR3.out.1.setS HR3.out.2⟩
   ·have dn : decide (sd < 0) = false := decide_eq_false hneg
    have HA : Hid (ansW l ops ws = (l, ops, Lib.itoa sd)) := hide (by rw [HA0.out, HLS.out, if_pos trivial, if_neg hneg])
    go_wp2_with fail
    refine (itoa_any sd HSD.out.1 HSD.out.2 w4 (HT.out.t10.kp (hk2.trans hk34))).mono ?_
    rintro e w5 ⟨rfl, hk5⟩
    have hk35 := hk34.trans hk5
    have hb3 := (hb1.kp hk2).kp hk35
    have c3 := hb3.cell 0
    have f3 := hb3.frozen 0
    have HR3 := hide (And.intro ((HDS.out.kp hk2).kp hk35) hb3)
    have HK3 := hide ((hk1.trans hk2).trans hk35)
    clear hb3
    go_wp2
    refine door_ret rfl (by have := (HR3.out.2.set (j := 0) (u := .string (bs (Lib.itoa sd)))).cell 0; exact this) ?_
    rw [HA.out]
    exact ⟨rfl, (KD.of HK3.out hB).setN (Nat.le_refl _) hB, HR3.out.1.setS HR3.out.2⟩
  ·have her := hok.line ws oe (by rw [HLS.out, if_neg he])
   have HA : Hid (ansW l ops ws = (l, ops, errB oe)) := hide (by rw [HA0.out, HLS.out, if_neg he])
   go_wp2_with fail
   refine (must_any oe _).mono ?_
   rintro e w4' ⟨hm, rfl⟩
   rw [if_neg he, slipE] at hm
   subst hm
   have hb3 := (hb1.kp hk2).kp hk34
   have HR3 := hide (And.intro ((HDS.out.kp hk2).kp hk34) hb3)
   have HK3 := hide ((hk1.trans hk2).trans hk34)
   clear hb3
   go_wp2
   refine door_slip rfl (HR3.out.2.cell 0) (HR3.out.2.frozen 0) (HT.out.t10.kp (hk2.trans hk34)) her (fun w4 k4 => ?_)
   rw [HA.out]
   exact ⟨rfl, ((KD.of HK3.out hB).on k4 (Nat.le_trans hB HK3.out.size)).setN (Nat.le_refl _) hB, (HR3.out.1.kp k4).setS (HR3.out.2.kp k4)⟩
theorem answer_no (B d : Nat) (l : List IP) (ops : List O3) (ws : List ByteArray) (vw : Value) (w : World) (hds : DS w B d l ops) (hrw : RD w eStr vw ws) (hB : B <= w.heap.size) (hBd : B <= d) (ht : TT B w)
  (hss : ∀ s ∈ ws, s.size <= 9223372036854775807) (h0 : ws ≠ []) (hok : LnOk l ops) (hk : kOf ws = 0) (hl : ws.length = 2) (hp : wAt ws 0 ≠ pathB) (ht' : wAt ws 0 ≠ treeB) (hd : wAt ws 0 ≠ deepB) :
  Calls Tryz.prog 20 #[.pointer (some ⟨d, 0, none⟩), vw] w (AnsPost B d (ansW l ops ws) w) := by
 have hmf : ∀ (fn : Fn) (first cap : Array Value) (w : World), (Instr.makeFunc fn first cap).run Tryz.prog w = .ok (.func fn first cap) w := fun _ _ _ _ => rfl
 obtain ⟨W1, hW1⟩ : ∃ W1, W1 = w.alloc (.cells #[.string ⟨#[]⟩] 9) := ⟨_, rfl⟩
 have hk1 : Kp w W1 := by rw [hW1]; exact (Kp.refl w).alloc
 have hb1 : BC W1 w.heap.size 9 [.string ⟨#[]⟩] := by rw [hW1]; exact BC.new w _ _
 obtain ⟨A, c, rfl, _, _⟩ := hrw.shape
 obtain ⟨b, o, rfl, _, x0⟩ := hrw.str (k := 0) (List.length_pos_iff.2 h0)
 rw [Nat.add_zero] at x0
 have hl0 : 0 < ws.length := List.length_pos_iff.2 h0
 have hl0i : (0 : Int) < (ws.length : Int) := by omega
 obtain ⟨s0, hs0⟩ : ∃ s0, s0 = ws[0] := ⟨_, rfl⟩
 have hse : ws.getD 0 ByteArray.empty = ws[0] := by simp [List.getD_eq_getElem?_getD, List.getElem?_eq_getElem hl0]
 have hk' : kindOf s0 = 0 := by rw [hs0, <- hse, <- hk, kOf]
 have hw0 : s0.toList = wAt ws 0 := by rw [ByteArray.toList_eq, hs0, wAt, hse]
 rw [<- hs0] at x0
 have x1 := hk1.cell x0
 rw [hW1] at x1
 have HX0 := hide (hk1.cell x0)
 have HK : Hid (Calls Tryz.prog 36 #[.string s0] W1 (fun e w' => e = .returned (.tuple #[.int .i64 0, .int .i64 1]) /\ Kp W1 w')) := hide ((kind_any s0 W1).mono (fun e w' h => by
  obtain ⟨h1, h2⟩ := h
  rw [hk', if_neg (by decide)] at h1
  exact ⟨h1, h2⟩))
 have HDS := hide (hds.kp hk1)
 have HT := hide (ht.go (hk1.bel.mono hB))
 have HA0 : Hid (ansW l ops ws = (l, ops, match lineS (l.map Prod.fst) ops ws with | .ok s => s | .error e => errB e)) := hide (by rw [ansW, if_neg (by omega)])
 have HRW := hide hrw
 obtain ⟨_, _, e1, _, y1⟩ := HRW.out.str (k := 1) (by omega)
 injection e1 with e1
 injection e1 with e1 e2
 subst e1 e2
 obtain ⟨s1, hs1⟩ : ∃ s1, s1 = ws[1] := ⟨_, rfl⟩
 rw [<- hs1] at y1
 have hw1 : s1.data.toList = wAt ws 1 := by
  rw [hs1, wAt]
  simp [List.getD_eq_getElem?_getD, List.getElem?_eq_getElem (show 1 < ws.length by omega)]
 have hss1 : s1.size <= 9223372036854775807 := hss s1 (by rw [hs1]; exact List.getElem_mem _)
 have HY := hide (hk1.cell y1)
 have bl2 : ((ws.length : Int) == 2) = true := beq_iff_eq.2 (by omega)
 have hl1i : (1 : Int) < (ws.length : Int) := by omega
 have bl1 : ((ws.length : Int) == 1) = false := beq_eq_false_iff_ne.2 (by omega)
 have hnr : ¬ (wAt ws 0 = rowsB /\ ws.length = 1) := fun e => by omega
 have hn2 : ¬ ws.length ≠ 2 := fun e => e hl
 have b1 : (s0.toList == [112, 97, 116, 104]) = false := beq_eq_false_iff_ne.2 (fun e => hp (hw0.symm.trans e))
 have b2 : (s0.toList == [116, 114, 101, 101]) = false := beq_eq_false_iff_ne.2 (fun e => ht' (hw0.symm.trans e))
 have b3 : (s0.toList == [100, 101, 101, 112]) = false := beq_eq_false_iff_ne.2 (fun e => hd (hw0.symm.trans e))
 have HA : Hid (ansW l ops ws = (l, ops, errB 1)) := hide (by rw [HA0.out, lineS, if_neg hnr, if_neg hn2, if_neg hp, if_neg ht', if_neg hd])
 by_cases h2 : wAt ws 0 = rowsB
 ·have b0 : (s0.toList == [114, 111, 119, 115]) = true := beq_iff_eq.2 (hw0.trans h2)
  clear hl hw0 hp ht' hd h2 hw1 hs1 hnr hn2 y1 hss1
  clear hrw hk' ht hs0 hds x0 hse hl0
  go_enter_defers Tryz.func20, Tryz.ntmps20
  go_wp2_with fail
  rw [<- hW1]
  refine HK.out.mono ?_
  rintro e w2 ⟨rfl, hk2⟩
  have x2 := hk2.cell HX0.out
  go_wp2_with fail
  refine (must_any 1 _).mono ?_
  rintro e w3 ⟨he, rfl⟩
  rw [if_neg (by decide), slipE] at he
  subst he
  have hb3 := (hb1.kp hk2).kp (Kp.refl w2)
  have HR3 := hide (And.intro ((HDS.out.kp hk2).kp (Kp.refl w2)) hb3)
  have HK3 := hide ((hk1.trans hk2).trans (Kp.refl w2))
  clear hb3
  go_wp2
  refine door_slip rfl (HR3.out.2.cell 0) (HR3.out.2.frozen 0) (HT.out.t10.kp (hk2.trans (Kp.refl w2))) (by decide) (fun w4 k4 => ?_)
  rw [HA.out]
  exact ⟨rfl, ((KD.of HK3.out hB).on k4 (Nat.le_trans hB HK3.out.size)).setN (Nat.le_refl _) hB, (HR3.out.1.kp k4).setS (HR3.out.2.kp k4)⟩
 ·have b0 : (s0.toList == [114, 111, 119, 115]) = false := beq_eq_false_iff_ne.2 (fun e => h2 (hw0.symm.trans e))
  clear hl hw0 hp ht' hd h2 hw1 hs1 hnr hn2 y1 hss1
  clear hrw hk' ht hs0 hds x0 hse hl0
  go_enter_defers Tryz.func20, Tryz.ntmps20
  go_wp2_with fail
  rw [<- hW1]
  refine HK.out.mono ?_
  rintro e w2 ⟨rfl, hk2⟩
  have x2 := hk2.cell HX0.out
  go_wp2_with fail
  refine (must_any 1 _).mono ?_
  rintro e w3 ⟨he, rfl⟩
  rw [if_neg (by decide), slipE] at he
  subst he
  have hb3 := (hb1.kp hk2).kp (Kp.refl w2)
  have HR3 := hide (And.intro ((HDS.out.kp hk2).kp (Kp.refl w2)) hb3)
  have HK3 := hide ((hk1.trans hk2).trans (Kp.refl w2))
  clear hb3
  go_wp2
  refine door_slip rfl (HR3.out.2.cell 0) (HR3.out.2.frozen 0) (HT.out.t10.kp (hk2.trans (Kp.refl w2))) (by decide) (fun w4 k4 => ?_)
  rw [HA.out]
  exact ⟨rfl, ((KD.of HK3.out hB).on k4 (Nat.le_trans hB HK3.out.size)).setN (Nat.le_refl _) hB, (HR3.out.1.kp k4).setS (HR3.out.2.kp k4)⟩
theorem answer_any (B d : Nat) (l : List IP) (ops : List O3) (ws : List ByteArray) (vw : Value) (w : World) (hds : DS w B d l ops) (hrw : RD w eStr vw ws) (hB : B <= w.heap.size) (hBd : B <= d) (ht : TT B w)
  (hss : ∀ s ∈ ws, s.size <= 9223372036854775807) (h0 : ws ≠ []) (hok : LnOk l ops) :
  Calls Tryz.prog 20 #[.pointer (some ⟨d, 0, none⟩), vw] w (AnsPost B d (ansW l ops ws) w) := by
 by_cases hk : 0 < kOf ws
 ·exact answer_ask B d l ops ws vw w hds hrw hB hBd ht hss h0 hok hk
 ·have hk : kOf ws = 0 := by have : 0 <= kOf ws := (kind_in _).1; omega
  by_cases h1 : wAt ws 0 = rowsB /\ ws.length = 1
  ·exact answer_rows B d l ops ws vw w hds hrw hB hBd ht hss h0 hok hk h1.1 h1.2
  ·by_cases hl : ws.length = 2
   ·by_cases hp : wAt ws 0 = pathB
    ·exact answer_path B d l ops ws vw w hds hrw hB hBd ht hss h0 hok hk hl hp
    ·by_cases ht' : wAt ws 0 = treeB
     ·exact answer_tree B d l ops ws vw w hds hrw hB hBd ht hss h0 hok hk hl ht'
     ·by_cases hd : wAt ws 0 = deepB
      ·exact answer_deep B d l ops ws vw w hds hrw hB hBd ht hss h0 hok hk hl hd
      ·exact answer_no B d l ops ws vw w hds hrw hB hBd ht hss h0 hok hk hl hp ht' hd
   ·exact answer_len B d l ops ws vw w hds hrw hB hBd ht hss h0 hok hk h1 hl
end Go.Proofs.YtcljlnagpjilaaaGreatDoor
