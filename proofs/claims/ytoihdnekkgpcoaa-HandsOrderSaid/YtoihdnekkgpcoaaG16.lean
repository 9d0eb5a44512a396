/-
  hands.Run: what it answers. Conditions: the lists read as they are named (RD, RDS).
  hands.Run: what it answers where it may not begin. Conditions: the lists read as they are named (RD, RDS).
  plain.within, hedgref.Between, hedgref.MapRight, plain.Check: what they answer. Conditions: the list reads as l (RD).
  hedgref.SameSpots, hedgref.SameInts, slices.Equal: what they answer. Conditions: the lists read as l and m (RD).
  hedgkeep.handsLives: it answers true. The runs of constants, closed. Conditions: none.
-/
import Derived.Test.YtoihdnekkgpcoaaG15
import Derived.Deep.LoopGhost
import Derived.Laws.ResultCell
import Derived.Test.YtoihdnekkgpcoaaG1

namespace Go.Proofs.Ytoihdnekkgpcoaa
open Go.ChangeShapes Go.WideShapes Go.ChangeAt Go.RowKit
set_option linter.unusedVariables false
set_option linter.unusedSimpArgs false

theorem RDS.fn {α : Type} {w : World} {E : Enc α} {v : Value} {ls : List (List α)} (h : RDS w E v ls) : ∃ (A : Option Addr) (c : Nat) (pA : Nat → Option Addr) (pN pC : Nat → Nat), v = .slice A ls.length c ∧ ls.length ≤ c ∧ c ≤ maxLen ∧
    ∀ k, k < ls.length → ∃ b o, A = some ⟨b, o, none⟩ ∧ b < w.heap.size ∧ w.cell? ⟨b, o + k, none⟩ = some (.slice (pA k) (pN k) (pC k)) ∧ RD w E (.slice (pA k) (pN k) (pC k)) (ls.getD k []) := by
  obtain ⟨A, c, rfl, h1, h2, h3⟩ := id h
  have key : ∀ k, ∃ x : Option Addr × Nat × Nat, k < ls.length → ∃ b o, A = some ⟨b, o, none⟩ ∧ b < w.heap.size ∧ w.cell? ⟨b, o + k, none⟩ = some (.slice x.1 x.2.1 x.2.2) ∧ RD w E (.slice x.1 x.2.1 x.2.2) (ls.getD k []) := by
    intro k
    by_cases hk : k < ls.length
    · obtain ⟨b, o, u, rfl, hb, hc, hr⟩ := h.at_ hk
      obtain ⟨a, n, cc, rfl⟩ : ∃ a n cc, u = .slice a n cc := by obtain ⟨a, cc, e, _⟩ := hr; exact ⟨_, _, _, e⟩
      exact ⟨(a, n, cc), fun _ => ⟨b, o, rfl, hb, hc, by simpa [List.getD_eq_getElem?_getD, hk] using hr⟩⟩
    · exact ⟨(none, 0, 0), fun h => absurd h hk⟩
  refine ⟨A, c, fun k => (Classical.choose (key k)).1, fun k => (Classical.choose (key k)).2.1, fun k => (Classical.choose (key k)).2.2, rfl, h1, h2, fun k hk => Classical.choose_spec (key k) hk⟩
theorem results_cell2 {P : Program} {fn : Func} {p u : Tmp} {ty : TypeId} (h : fn.results = #[.cell p ty, .tmp u]) (tmps : Array Value) (w : World) (g : Nat) (t : TypeId) (cs : Array Value) (fr : Nat × Nat) (d : TypeDesc) (v : Value)
    (hp : tmps.getD p undef = .pointer (some ⟨g, 0, none⟩)) (hv : tmps.getD u undef = v) (hg : w.heap[g]? = some (.cells cs t fr)) (hu : P.underlying ty = some d) (hd : (match d with | .struct _ | .array _ _ => true | _ => false) = true) (hi : (P.info? ty).map (·.size) = some cs.size) :
    (results fn tmps).run P w = .ok (.tuple #[.agg cs, v]) w := by
  rw [results_cell_tmp h, hp, hv]
  simp [asAddr, run_loadVar_row w g t ty cs fr d hg hu hd hi, Result.andThen]
theorem info_told2 : (Try.prog.info? 29).map (·.size) = some 2 := by kernel_rfl
/-- The table, with what is told. -/
def RT (w0 : World) (T alg R0 : Nat) (P : List (List Dd)) (l : List Int) (s : St) (w : World) : Prop := RN w0 T alg R0 P l s w ∧ ∃ tg, w.cell? ⟨T, 4, none⟩ = some (.slice (some ⟨tg, 0, none⟩) P.length P.length)
variable {P : List (List Dd)} {l : List Int} {s : St} {w w' w0 : World} {T alg R0 : Nat}
theorem RT.kpw (h : RT w0 T alg R0 P l s w) (k : Kp w w') : RT w0 T alg R0 P l s w' := by
  obtain ⟨a, tg, c⟩ := h
  exact ⟨a.kpw k, tg, k.cell c⟩
theorem RN.rt (h : RN w0 T alg R0 P l s w) (h0 : 0 < P.length) : RT w0 T alg R0 P l s w := by
  refine ⟨h, ?_⟩
  obtain ⟨L, dv, a, b, c, d, e, f⟩ := h
  obtain ⟨t, _⟩ := f.wn.td (by omega)
  have t4 : w.cell? ⟨L.T, 4, none⟩ = some L.tov := f.wn.tb.1.cell 4
  rw [t, b, c] at t4
  exact ⟨_, t4⟩
theorem step_rt (h : RT w0 T alg R0 P l s w) {i : Nat} (hi : i < P.length) (hn : s.now < 100000) :
    Calls Try.prog 18 #[ptr T, .int .i64 i] w (fun e w' => e = .returned (.bool (can P s i)) ∧ RT w0 T alg R0 P l (stpO alg P s i) w') :=
  (step_rn h.1 hi hn).mono fun e w' h => ⟨h.1, h.2.rt (by omega)⟩
theorem left_rt (h : RT w0 T alg R0 P l s w) : Calls Try.prog 19 #[ptr T] w (fun e w' => ∃ v, e = .returned v ∧ OW w' w.heap.size 3 eInt v (leftM s.m) ∧ Kp w w') := by
  obtain ⟨⟨L, dv, a, b, c, d, e, f⟩, _⟩ := h
  rw [← b]
  exact left_any f.wn f.inv.mw
theorem RT.kp (h : RT w0 T alg R0 P l s w) : Kp w0 w := by
  obtain ⟨⟨L, dv, a, b, c, d, e, f⟩, _⟩ := h
  rw [← a]; exact f.wn.kp
theorem RT.r0 (h : RT w0 T alg R0 P l s w) : BC w R0 29 [.slice none 0 0, .slice none 0 0] := by
  obtain ⟨⟨L, dv, a, b, c, d, e, f⟩, _⟩ := h
  exact (f.wn.cs _ _ _ e).1
theorem RT.now (h : RT w0 T alg R0 P l s w) : w.cell? ⟨T, 3, none⟩ = some (.int .i64 s.now) := h.1.now
theorem RT.told (h : RT w0 T alg R0 P l s w) {tg : Nat} (ht : w.cell? ⟨T, 4, none⟩ = some (.slice (some ⟨tg, 0, none⟩) P.length P.length)) {k : Nat} (hk : k < P.length) :
    ∃ u, w.cell? ⟨tg, k, none⟩ = some u ∧ RD w eDone u (toldM s k) ∧ (toldM s k).length ≤ 5 ∧ ∀ Q cs, BC w Q 29 cs → tg ≠ Q ∧ u.ownBlock ≠ some Q := by
  obtain ⟨⟨L, dv, a, b, c, d, e, f⟩, _⟩ := h
  have hk' : k < L.nh := by rw [c]; exact hk
  obtain ⟨t1, t2, tv, hb, ho, -⟩ := f.wn.td (by omega)
  have t4 : w.cell? ⟨L.T, 4, none⟩ = some L.tov := f.wn.tb.1.cell 4
  rw [b, ht, t1] at t4
  injection t4 with t4
  injection t4 with t4
  injection t4 with t4
  injection t4 with t4
  subst t4
  have hl : (s.told k).length ≤ 5 := by
    have h1 := f.dl k
    have h2 := f.ok.ndl k
    rcases f.gh k hk' with ⟨_, _, x⟩ | ⟨_, _, x⟩ <;> omega
  refine ⟨tv k, by rw [hb.cell]; simp [hk'], (ho k hk').rd, by simpa [toldM] using hl, fun Q cs hQ => ⟨BC.ne hb hQ (by decide), OW.bc_ne (ho k hk') hQ (by decide)⟩⟩
def itR (alg : Nat) (P : List (List Dd)) (s : St) (k : Nat) : St := Nat.rec (motive := fun _ => St) s (fun _ x => rnd alg P x) k
def OrRel (w1 : World) (T alg R0 : Nat) (P : List (List Dd)) (l o : List Int) (iv : Value) (wx : World) : Prop :=
  ∃ k : Nat, k ≤ o.length ∧ iv = .int .i64 k ∧ RT w1 T alg R0 P l (ordS alg P (o.take k) (st0 l)) wx ∧ (ordS alg P (o.take k) (st0 l)).now ≤ k
def OtRel (w1 : World) (T alg R0 : Nat) (P : List (List Dd)) (l : List Int) (s1 : St) (g : Nat) (sv : Value) (wx : World) : Prop :=
  ∃ (b : Bool) (s : St) (k : Nat), sv = .bool b ∧ RT w1 T alg R0 P l s wx ∧ s = itR alg P s1 k ∧ (b = false → rnd alg P s = s) ∧ s.now ≤ 5000 ∧ (4000 - s.now) + (if b then 1 else 0) ≤ g
def InRel (w1 : World) (T alg R0 : Nat) (P : List (List Dd)) (l : List Int) (s : St) (sv iv : Value) (wx : World) : Prop :=
  ∃ (j : Nat) (fb : Bool) (s' : St), j ≤ P.length ∧ iv = .int .i64 j ∧ sv = .bool fb ∧ s' = (List.range j).foldl (stpL alg P) s ∧ (fb = true ↔ s.now < s'.now) ∧ RT w1 T alg R0 P l s' wx ∧ s.now ≤ s'.now ∧ (s'.now = s.now → s' = s) ∧ (s.now < s'.now → s.now < 4000) ∧ s'.now ≤ 5000
def SvRel (P : List (List Dd)) (s : St) (Q0 : Nat) (vl : Value) (W30 : World) (iv : Value) (wx : World) : Prop :=
  ∃ (k : Nat) (dv : Value) (acc : List (Nat × Nat × Dn)), k ≤ P.length ∧ iv = .int .i64 k ∧ acc = (List.range k).flatMap (toldM s) ∧ acc.length ≤ 5 * k ∧ BC wx Q0 29 [dv, vl] ∧ OW wx W30.heap.size 35 eDone dv acc ∧ Kf (fun b => b = Q0) W30 wx
def RunPost (alg : Nat) (l : List Int) (P : List (List Dd)) (o : List Int) (w : World) (e : Ending) (w' : World) : Prop :=
  ∃ s vd vl, e = .returned (.tuple #[.agg #[vd, vl], .int .i64 0]) ∧ FinR alg P (ordS alg P o (st0 l)) s ∧ RD w' eDone vd (doneL s P.length) ∧ RD w' eInt vl (leftM s.m) ∧ Kp w w'
set_option maxRecDepth 100000 in
set_option maxHeartbeats 8000000 in
theorem hrun_any (alg : Nat) (l : List Int) (P : List (List Dd)) (o : List Int) (vl vp vo : Value) (w : World) (hl : RD w eInt vl l) (hp : RDS w eDeed vp P) (ho : RD w eInt vo o) (hr : rgF alg l P o.length = 0) :
    Calls Try.prog 9 #[.int .i64 alg, vl, vp, vo] w (RunPost alg l P o w) := by
  have HRG := hide (fun W (k : Kp w W) => hright_any alg l P o vl vp vo W (hl.kp k) (hp.kp k) (ho.kp k))
  rw [hr] at HRG
  obtain ⟨ha, hn5, ok⟩ := rgF_ok hr
  have HOK := hide ok
  have hP4 := ok.len
  obtain ⟨A1, c1, rfl, hc1, _⟩ := hl.shape
  obtain ⟨A2, c2, pA, pN, pC, rfl, hc2, hm2, hpr⟩ := hp.fn
  obtain ⟨A3, c3, rfl, hc3, _⟩ := ho.shape
  have HL := hide hl
  have HO := hide ho
  have HPR := hide hpr
  have HA := hide (show 1 ≤ alg ∧ alg ≤ 4 by omega)
  have HK9 : Hid (∀ x ∈ l, x ≤ 9) := hide (fun x hx => (ok.keys x hx).2)
  have hl10 : l.length ≤ 10 := by
    have h1 := (mm0_MW l ok.keys ok.sort)
    have key : ∀ i, i < l.length → (i : Int) ≤ (mm0 l).ky (i + 1) := by
      intro i
      induction i with
      | zero => intro hi; have := ok.keys _ (List.getElem_mem hi); rw [mm0_ky hi]; omega
      | succ i ih =>
        intro hi
        have h2 := ih (by omega)
        have h3 := h1.ri (i + 1) (by show i + 1 < l.length + 2; omega) (by rw [mm0_ky (show i < l.length by omega)]; have := (ok.keys _ (List.getElem_mem (show i < l.length by omega))).2; omega)
        rw [mm0_nxI (by omega)] at h3
        omega
    by_cases h0 : l.length = 0
    · omega
    · have h2 := key (l.length - 1) (by omega)
      rw [mm0_ky (by omega)] at h2
      have := (ok.keys _ (List.getElem_mem (show l.length - 1 < l.length by omega))).2
      omega
  clear hl hp ho hr ha ok hpr
  obtain ⟨CM, HCM, hmk⟩ := run_mk (P := Try.prog) row_dones ⟨.slice none 0 0, rfl⟩ (zero_of info_dones rfl) P.length (by omega) (by simp [maxLen]; omega)
  have s1 : IntKind.i64.wrap ((l.length : Int) - 1) = (l.length : Int) - 1 := IntWalk.i64_in _ (by omega)
  go_enter Try.func9, Try.ntmps9
  go_wp2_with fail
  refine (HRG.out _ ((Kp.refl w).alloc)).mono ?_
  rintro e w1 ⟨rfl, kk1⟩
  have hbR : BC w1 w.heap.size 29 [.slice none 0 0, .slice none 0 0] := (BC.new w 29 [.slice none 0 0, .slice none 0 0]).kp kk1
  have kw1 : Kp w w1 := (Kp.refl w).alloc.trans kk1
  have HRW : Hid (w.heap.size < w1.heap.size) := hide hbR.lt
  obtain ⟨R0, hR0⟩ : ∃ R0, R0 = w.heap.size := ⟨_, rfl⟩
  rw [← hR0] at hbR ⊢
  have HR0 := hide hR0
  have HBR := hide hbR
  have HK1 := hide kw1
  have HST := hide (Bds.start l w1)
  clear hR0 hbR kk1 HRG
  go_wp2
  clear s1
  go_loopw [11, 12] (fun a b wr => BdRel l w1 b a wr) (fun a i wr => (intOf i + 1).toNat)
  case atStart => exact ⟨l.length, fun _ => w1.heap.size, _, Nat.le_refl _, rfl, rfl, rfl, HST.out⟩
  case round =>
    obtain ⟨c, Bf, K, hc, hK, rfl, rfl, hB⟩ := hrel
    by_cases h0 : c = 0
    · subst h0
      obtain rfl : K = -1 := by omega
      have HB0 := hide (hB.push HK9.out (by omega) (-1) rfl (by decide))
      have hbl := hB.kp.size
      clear hK hB
      unfold ptr at *
      go_wp2
      obtain ⟨W9, hW9⟩ : ∃ W9, W9 = ((wr.alloc (.cells #[.int .i64 (-1), .pointer (some ⟨Bf 1, 0, none⟩), .bool false, .bool false] 48)).alloc (.cells CM 26)).alloc (.cells #[.int .i64 alg, .pointer (some ⟨wr.heap.size, 0, none⟩), .slice none 0 0, .int .i64 0, .slice (some ⟨wr.heap.size + 1, 0, none⟩) P.length P.length] 53) := ⟨_, rfl⟩
      rw [← hW9]
      have hB9 : Bds l w1 0 (up Bf 0 wr.heap.size) W9 := by rw [hW9]; exact HB0.out.kpw ((Kp.refl _).alloc.alloc)
      have hT9 : BC W9 (wr.heap.size + 1 + 1) 53 [.int .i64 alg, .pointer (some ⟨wr.heap.size, 0, none⟩), .slice none 0 0, .int .i64 0, .slice (some ⟨wr.heap.size + 1, 0, none⟩) P.length P.length] := by rw [hW9]; exact BC.made [.cells #[.int .i64 (-1), .pointer (some ⟨Bf 1, 0, none⟩), .bool false, .bool false] 48, .cells CM 26, .cells #[.int .i64 alg, .pointer (some ⟨wr.heap.size, 0, none⟩), .slice none 0 0, .int .i64 0, .slice (some ⟨wr.heap.size + 1, 0, none⟩) P.length P.length] 53] wr 2 rfl
      have htg9 : BC W9 (wr.heap.size + 1) 26 (List.replicate P.length (.slice none 0 0)) := by
        have e := HCM.out
        rw [flat_nil] at e
        subst e
        rw [hW9]
        exact BC.made [.cells #[.int .i64 (-1), .pointer (some ⟨Bf 1, 0, none⟩), .bool false, .bool false] 48, .cells (List.replicate P.length (Value.slice none 0 0)).toArray 26, .cells #[.int .i64 alg, .pointer (some ⟨wr.heap.size, 0, none⟩), .slice none 0 0, .int .i64 0, .slice (some ⟨wr.heap.size + 1, 0, none⟩) P.length P.length] 53] wr 1 rfl
      have hR9 := HBR.out.kp hB9.kp
      have hwz : w1.heap.size ≤ wr.heap.size := hbl
      have eb0 : up Bf 0 wr.heap.size 0 = wr.heap.size := up_same _ _ _
      obtain ⟨Bg, hBg⟩ : ∃ Bg, Bg = up Bf 0 wr.heap.size := ⟨_, rfl⟩
      obtain ⟨T, hT⟩ : ∃ T, T = wr.heap.size + 1 + 1 := ⟨_, rfl⟩
      obtain ⟨tg, htg⟩ : ∃ tg, tg = wr.heap.size + 1 := ⟨_, rfl⟩
      rw [← hBg] at hB9 eb0
      obtain ⟨b0, hb0⟩ : ∃ b0, b0 = wr.heap.size := ⟨_, rfl⟩
      rw [← hT] at hT9 ⊢
      rw [← htg] at htg9 hT9
      rw [← hb0] at hT9 eb0
      have hTz : w1.heap.size ≤ T := by omega
      have htz : w1.heap.size ≤ tg := by omega
      have HB9 := hide hB9
      have HT9 := hide hT9
      have HTG := hide htg9
      have HR9 := hide hR9
      have HZ := hide (And.intro hTz htz)
      have HE0 := hide eb0
      have HTL := hide hT9.lt
      have HST2 : Hid (Hds (fun j => .slice (pA j) (pN j) (pC j)) W9 T alg b0 (.slice (some ⟨tg, 0, none⟩) P.length P.length) (.slice none 0 0) [] W9) := hide (Hds.start hT9)
      clear hW9 hB9 hT9 htg9 hR9 hwz eb0 hBg hT htg hb0 hTz htz hbl HB0 hmk HCM
      go_loopw [59] (fun iv wx => HdRel P.length (fun j => .slice (pA j) (pN j) (pC j)) W9 T alg b0 (.slice (some ⟨tg, 0, none⟩) P.length P.length) iv wx) (fun iv _ => P.length - (intOf iv).toNat)
      case atStart => exact ⟨0, _, [], Nat.zero_le _, rfl, rfl, HST2.out⟩
      case round =>
        obtain ⟨k, hv, hbs, hk, rfl, hbk, hH⟩ := hrel
        have hkw1 : Kp w1 wr := hH.kf.kp HB9.out.kp (fun b e => by have e : b = T := e; rw [e]; exact HZ.out.1)
        have hkw := HK1.out.trans hkw1
        by_cases hlt : k < P.length
        · obtain ⟨b, oo, e, _, x0, _⟩ := HPR.out k hlt
          have x0 := hkw.cell x0
          obtain ⟨xA, xN, xC, rfl⟩ := hH.ow.rd.slice
          have t2 : wr.cell? ⟨T, 2, none⟩ = some (.slice xA xN xC) := hH.tb.cell 2
          have HM1 : Hid ((hbs.length + [wr.heap.size].length) * 8 ≤ 140737488355328) := hide (by simp; omega)
          have HM2 : Hid (hbs.length + [wr.heap.size].length ≤ maxLen) := hide (by simp [maxLen]; omega)
          have HO2 := hide hH.ow
          have HSZ : Hid (W9.heap.size ≤ wr.heap.size) := hide hH.kf.size
          have HTB : Hid (∀ w3, ((wr.alloc (.cells #[.slice (pA k) (pN k) (pC k), .int .i64 0, .nilFunc, .pointer none, .pointer none, .bool false] 56)).alloc (.cells #[.pointer (some ⟨wr.heap.size, 0, none⟩)] 54)).grownBy w3 (Value.slice xA xN xC).ownBlock → w3.cell? ⟨T, 2, none⟩ = some (.slice xA xN xC) ∧ w3.frozen? ⟨T, 2, none⟩ = false) := hide (by
            intro w3 hg
            have h1 : BC w3 T 53 _ := (hH.tb.kp ((Kp.refl wr).alloc.alloc)).kf (F := fun b => (Value.slice xA xN xC).ownBlock = some b) (Kf.app (Kf.refl _ _) hg fun k e => .inl e) (fun e => by have := (hH.ow.lt T e).1; have := HTL.out; omega)
            exact ⟨h1.cell 2, h1.frozen 2⟩)
          have HPU : Hid (∀ hv' w3, OW w3 W9.heap.size 54 ePtr hv' (hbs ++ [wr.heap.size]) → ((wr.alloc (.cells #[.slice (pA k) (pN k) (pC k), .int .i64 0, .nilFunc, .pointer none, .pointer none, .bool false] 56)).alloc (.cells #[.pointer (some ⟨wr.heap.size, 0, none⟩)] 54)).grownBy w3 (Value.slice xA xN xC).ownBlock →
              Hds (fun j => .slice (pA j) (pN j) (pC j)) W9 T alg b0 (.slice (some ⟨tg, 0, none⟩) P.length P.length) hv' (hbs ++ [wr.heap.size]) (w3.setCell ⟨T, 2, none⟩ hv')) := hide (by
            intro hv' w3 ho hg
            subst hbk
            exact hH.push HTL.out ((Kp.refl _).alloc) ho hg)
          have hlti : (k : Int) < (P.length : Int) := by omega
          cases e
          clear hH hkw1 hkw
          go_wp2_with (at_builtin; (with_reducible refine list_app (B := W9.heap.size) (l := hbs) (m := [wr.heap.size]) row_hand (.slice xA xN xC) ?_ (.tmp 67) (.tmp 71) ?_ ?_ ?_ ?_ HM1.out HM2.out ?_ ?_); (with_reducible rfl); (with_reducible rfl); rfl; (exact (HO2.out.alloc _).alloc _); (show RD _ _ (.slice (some ⟨_, 0, none⟩) 1 1) _; (focus ((repeat (first | (with_reducible assumption) | exact RD.new1 _ rfl | (refine RD.new1e _ ?_ rfl; simp; done) | (with_reducible apply RD.alloc) | (with_reducible apply RD.drew) | (with_reducible apply RD.drewN) | ((with_reducible apply RD.belowR); (with_reducible assumption)))); done))); (exact Nat.le_trans HSZ.out ((Kp.refl wr).alloc.alloc).size); intro v3 w3 ho3 hg3 hat3; obtain ⟨x13, f13⟩ := HTB.out w3 hg3; obtain ⟨A5, N5, c5, rfl⟩ := ho3.rd.slice)
          go_roundw
          case rel => (repeat apply Exists.intro); exact ⟨⟨k + 1, _, hbs ++ [wr.heap.size], by omega, by go_num, by simp [hbk], HPU.out _ _ ho3 hg3⟩, rfl⟩
          case measure => simp [intOf]; omega
        · have HRT : Hid (RT w1 T alg R0 P l (st0 l) wr) := hide (by
            have e0 := HE0.out
            subst e0
            refine ⟨rn_start HOK.out HA.out HB9.out HR9.out HTG.out HZ.out.2 HZ.out.1 HT9.out (fun i hi => ?_) hH (by omega), tg, hH.tb.cell 4⟩
            obtain ⟨_, _, _, _, _, h⟩ := HPR.out i hi
            exact h.kp HK1.out)
          clear hH hkw hkw1
          go_wp2
          go_loopw [78] (fun iv wx => OrRel w1 T alg R0 P l o iv wx) (fun iv _ => o.length - (intOf iv).toNat)
          case atStart => exact ⟨0, Nat.zero_le _, rfl, HRT.out, Nat.zero_le _⟩
          case round =>
            obtain ⟨j, hj, rfl, hR, hnw⟩ := hrel
            by_cases hjl : j < o.length
            · obtain ⟨b, oo, e, _, x0⟩ := (HO.out.kp (HK1.out.trans hR.kp)).int hjl
              have htk := ordS_take alg P o (st0 l) j hjl
              obtain ⟨x, hx⟩ : ∃ x, x = o[j]'hjl := ⟨_, rfl⟩
              rw [← hx] at x0 htk
              have HTK := hide htk
              have HR := hide hR
              have HNW := hide hnw
              have s85 : IntKind.i64.wrap ((P.length : Int) - 1) = (P.length : Int) - 1 := IntWalk.i64_in _ (by omega)
              have hjli : (j : Int) < (o.length : Int) := by omega
              have HJL := hide hjl
              cases e
              clear hx htk hR hnw
              go_wp2_with fail
              refine (hwithin_any x 0 ((P.length : Int) - 1) _).mono ?_
              rintro e w3 ⟨rfl, rfl⟩
              by_cases hin : 0 ≤ x ∧ x ≤ (P.length : Int) - 1
              · have hb := hbt_t hin
                obtain ⟨i, rfl⟩ : ∃ i : Nat, x = (i : Int) := ⟨x.toNat, by omega⟩
                have hil : i < P.length := by omega
                have e1 := HTK.out.trans (if_pos ⟨by omega, by omega⟩)
                rw [Int.toNat_natCast] at e1
                have HTK1 := hide e1
                have HSP := hide (step_rt HR.out hil (by have := HNW.out; omega))
                have HLE := hide (stpO_le (alg := alg) (P := P) (s := ordS alg P (o.take j) (st0 l)) (i := i)).1
                rw [hb]
                clear hin hb e1 hil HTK
                unfold ptr at HSP
                go_wp2_with fail
                refine HSP.out.mono ?_
                rintro e w4 ⟨rfl, hR4⟩
                rw [← HTK1.out] at hR4
                have HR4 := hide hR4
                clear hR4
                go_wp2
                go_roundw
                case rel => (repeat apply Exists.intro); exact ⟨⟨j + 1, by have := HJL.out; omega, by go_num, HR4.out, by rw [HTK1.out]; have := HLE.out; have := HNW.out; omega⟩, rfl⟩
                case measure => simp [intOf]; have := HJL.out; omega
              · have hb := hbt_f hin
                have HTK1 := hide (HTK.out.trans (if_neg (fun h => hin ⟨h.1, by omega⟩)))
                rw [hb]
                clear hin hb HTK
                go_wp2
                go_roundw
                case rel => (repeat apply Exists.intro); exact ⟨⟨j + 1, by have := HJL.out; omega, by go_num, by rw [HTK1.out]; exact HR.out, by rw [HTK1.out]; have := HNW.out; omega⟩, rfl⟩
                case measure => simp [intOf]; have := HJL.out; omega
            · rw [List.take_of_length_le (by omega)] at hR hnw
              obtain ⟨s1, hs1⟩ : ∃ s1, s1 = ordS alg P o (st0 l) := ⟨_, rfl⟩
              rw [← hs1] at hR hnw
              have HS1 := hide hs1
              have HR1 := hide hR
              have HN1 : Hid (s1.now ≤ 5000) := hide (by omega)
              clear hs1 hR hnw HRT HST2 HT9 HTG HR9
              go_wp2
              go_loopg [18] 4001 (fun g sv wx => OtRel w1 T alg R0 P l s1 g sv wx)
              case atStart => exact ⟨true, s1, 0, rfl, HR1.out, rfl, (fun e => by cases e), HN1.out, (by simp)⟩
              case round =>
                obtain ⟨b, s, kk, rfl, hR, hit, hfin, hnow, hg⟩ := hrel
                cases b with
                | true =>
                  have HIT := hide hit
                  have HG1 := hide hg
                  have HNO := hide hnow
                  have HR := hide hR
                  clear hR hit hfin hnow hg HS1 HR1
                  go_wp2
                  go_loopw [18, 94] (fun sv iv wx => InRel w1 T alg R0 P l s sv iv wx) (fun _ iv _ => P.length - (intOf iv).toNat)
                  case atStart => exact ⟨0, false, s, Nat.zero_le _, rfl, rfl, rfl, by simp, HR.out, Nat.le_refl _, fun _ => rfl, fun h => absurd h (Nat.lt_irrefl _), HNO.out⟩
                  case round =>
                    obtain ⟨j, fb, s', hj, rfl, rfl, hs', hfb, hR, hle, heq, hlt4, hn5⟩ := hrel
                    by_cases hjl : j < P.length
                    · have t3 := hR.now
                      have HR := hide hR
                      have htk := rnd_take alg P s j
                      rw [← hs'] at htk
                      have hjli : (j : Int) < (P.length : Int) := by omega
                      have HX := hide (And.intro hfb (And.intro hle (And.intro heq (And.intro hlt4 (And.intro hn5 hjl)))))
                      by_cases h4 : s'.now < 4000
                      · have HTK : Hid (stpO alg P s' j = (List.range (j + 1)).foldl (stpL alg P) s) := hide (by rw [htk]; unfold stpL; rw [if_pos h4])
                        have HSP := hide (step_rt hR hjl (by omega))
                        have d4 : decide ((s'.now : Int) < 4000) = true := decide_eq_true (by omega)
                        cases hc : can P s' j with
                        | true =>
                          have hn : (stpO alg P s' j).now = s'.now + 1 := by
                            rw [stpO_can hc]; unfold stp; simp only []; split <;> rfl
                          rw [hc] at HSP
                          have HN := hide hn
                          have HH4 := hide h4
                          obtain ⟨s2, hs2⟩ : ∃ s2, s2 = stpO alg P s' j := ⟨_, rfl⟩
                          rw [← hs2] at HTK HSP HN
                          clear hR htk hfb hle heq hlt4 hn5 hs' h4 hc hn hs2 HR hjl
                          unfold ptr at HSP
                          go_wp2_with fail
                          refine HSP.out.mono ?_
                          rintro e w4 ⟨rfl, hR4⟩
                          have HR4 := hide hR4
                          clear hR4
                          go_wp2
                          go_roundw
                          case rel =>
                            skip
                            obtain ⟨a1, a2, a3, a4, a5, a6⟩ := HX.out
                            have a7 := HN.out
                            have a8 := HH4.out
                            exact ⟨j + 1, true, s2, by omega, by go_num, rfl, HTK.out, ⟨fun _ => by omega, fun _ => rfl⟩, HR4.out, by omega, fun h => by omega, fun _ => by omega, by omega⟩
                          case measure => simp [intOf]; have := HX.out.2.2.2.2.2; omega
                        | false =>
                          rw [stpO_cannot _ _ _ _ hc] at HTK HSP
                          rw [hc] at HSP
                          clear hR htk hfb hle heq hlt4 hn5 hs' h4 hc HR hjl
                          unfold ptr at HSP
                          go_wp2_with fail
                          refine HSP.out.mono ?_
                          rintro e w4 ⟨rfl, hR4⟩
                          have HR4 := hide hR4
                          clear hR4
                          go_wp2
                          go_roundw
                          case rel =>
                            skip
                            obtain ⟨a1, a2, a3, a4, a5, a6⟩ := HX.out
                            exact ⟨j + 1, fb, s', by omega, by go_num, rfl, HTK.out, a1, HR4.out, a2, a3, a4, a5⟩
                          case measure => simp [intOf]; have := HX.out.2.2.2.2.2; omega
                      · have HTK : Hid (s' = (List.range (j + 1)).foldl (stpL alg P) s) := hide (by rw [htk]; unfold stpL; rw [if_neg h4])
                        have d4 : decide ((s'.now : Int) < 4000) = false := decide_eq_false (by omega)
                        clear hR htk hfb hle heq hlt4 hn5 hs' h4 hjl
                        go_wp2
                        go_roundw
                        case rel =>
                          skip
                          obtain ⟨a1, a2, a3, a4, a5, a6⟩ := HX.out
                          exact ⟨j + 1, fb, s', by omega, by go_num, rfl, HTK.out, a1, HR.out, a2, a3, a4, a5⟩
                        case measure => simp [intOf]; have := HX.out.2.2.2.2.2; omega
                    · have hr : s' = rnd alg P s := by rw [hs', show j = P.length by omega]; rfl
                      have HREL : Hid (OtRel w1 T alg R0 P l s1 (gk - 1) (.bool fb) wr) := hide (by
                        have hg := HG1.out
                        simp only [if_true] at hg
                        refine ⟨fb, s', kk + 1, rfl, hR, ?_, fun e => ?_, hn5, ?_⟩
                        · rw [hr, HIT.out]; rfl
                        · have h1 : ¬ s.now < s'.now := fun h => by rw [hfb.2 h] at e; cases e
                          have h2 := heq (by omega)
                          rw [h2] at hr ⊢
                          exact hr.symm
                        · cases fb with
                          | true =>
                            have h1 := hfb.1 rfl
                            have h2 := hlt4 h1
                            simp only [if_true]
                            omega
                          | false =>
                            simp
                            omega)
                      have HGP : Hid (0 < gk) := hide (by have hg := HG1.out; simp only [if_true] at hg; omega)
                      have hjli : ¬ (j : Int) < (P.length : Int) := by omega
                      clear hR hle heq hlt4 hn5 hs' hfb hr hjl
                      go_wp2
                      go_roundg (gk - 1)
                      case measure => have := HGP.out; omega
                      case rel => exact HREL.out
                | false =>
                  have hfin := hfin rfl
                  have HFIN : Hid (FinR alg P s1 s) := hide ⟨kk, hit, hfin⟩
                  have HR := hide hR
                  have HLF := hide (left_rt hR)
                  clear hfin hit hnow hg hR HR1
                  unfold ptr at HLF
                  go_wp2_with fail
                  refine HLF.out.mono ?_
                  rintro e w2 ⟨vl, rfl, hov, hk2⟩
                  obtain ⟨lA, lN, lC, rfl⟩ := hov.rd.slice
                  have HOV := hide hov
                  have HR2 := hide (HR.out.kpw hk2)
                  have HKW2 : Hid (Kp w w2) := hide (HK1.out.trans (HR.out.kp.trans hk2))
                  have HVR : Hid (∀ k, (Value.slice lA lN lC).ownBlock = some k → R0 < k ∧ k < w2.heap.size) := hide (fun k e => by
                    have h1 := hov.lt k e
                    have h2 := HR.out.r0.lt
                    exact ⟨by omega, h1.2⟩)
                  obtain ⟨tg2, ht4⟩ := HR2.out.2
                  have HQB : Hid (BC (w2.alloc (.cells #[.slice none 0 0, .slice lA lN lC] 29)) w2.heap.size 29 [.slice none 0 0, .slice lA lN lC]) := hide (BC.new w2 29 [.slice none 0 0, .slice lA lN lC])
                  have HKA : Hid (Kp w2 (w2.alloc (.cells #[.slice none 0 0, .slice lA lN lC] 29))) := hide (Kp.refl w2).alloc
                  have ht5 := HKA.out.cell ht4
                  clear hov hk2 HLF
                  go_wp2
                  have HR3 := hide (HR2.out.kpw HKA.out)
                  have HT5 := hide ht5
                  have HVR2 := HVR
                  obtain ⟨W30, hW30⟩ : ∃ W30, W30 = w2.alloc (.cells #[.slice none 0 0, .slice lA lN lC] 29) := ⟨_, rfl⟩
                  obtain ⟨Q0, hQ0⟩ : ∃ Q0, Q0 = w2.heap.size := ⟨_, rfl⟩
                  rw [← hW30] at HQB HKA HR3 HT5 ⊢
                  rw [← hQ0] at HQB HVR ⊢
                  have HKW3 : Hid (Kp w W30) := hide (HKW2.out.trans HKA.out)
                  have HVL : Hid (RD W30 eInt (.slice lA lN lC) (leftM s.m)) := hide (HOV.out.rd.kp HKA.out)
                  have HRQ : Hid (R0 < Q0) := hide (by have := HR2.out.r0.lt; omega)
                  have HRB : Hid (BC W30 R0 29 [.slice none 0 0, .slice none 0 0]) := hide (HR2.out.r0.kp HKA.out)
                  clear hW30 hQ0 HOV HR2 HKW2 ht4 ht5 HVR2 HKA HR
                  go_loopw [116] (fun iv wx => SvRel P s Q0 (.slice lA lN lC) W30 iv wx) (fun iv _ => P.length - (intOf iv).toNat)
                  case atStart => exact ⟨0, _, [], Nat.zero_le _, rfl, rfl, Nat.zero_le _, HQB.out, OW.nil, Kf.refl _ _⟩
                  case round =>
                    obtain ⟨k, dv, acc, hk, rfl, hacc, hal, hbc, how, hkf⟩ := hrel
                    obtain ⟨dA, dN, dC, rfl⟩ := how.rd.slice
                    by_cases hlt : k < P.length
                    · obtain ⟨u, xu, hu, hul, hne⟩ := HR3.out.told HT5.out hlt
                      obtain ⟨n1, n2⟩ := hne _ _ HQB.out
                      have x0 := hkf.cell (p := ⟨tg2, k, none⟩) n1 xu
                      have hu2 := hu.kf hkf (fun _ j e1 e2 => n2 (by rw [e1]; exact congrArg some e2))
                      obtain ⟨uA, uN, uC, rfl⟩ := hu.slice
                      have x1 : wr.cell? ⟨Q0, 0, none⟩ = some (.slice dA dN dC) := hbc.cell 0
                      have HM1 : Hid ((acc.length + (toldM s k).length) * 40 ≤ 140737488355328) := hide (by omega)
                      have HM2 : Hid (acc.length + (toldM s k).length ≤ maxLen) := hide (by simp [maxLen]; omega)
                      have HOW := hide how
                      have HU := hide hu2
                      have HSZ : Hid (W30.heap.size ≤ wr.heap.size) := hide hkf.size
                      have hdq : (Value.slice dA dN dC).ownBlock ≠ some Q0 := OW.bc_ne how hbc (by decide)
                      have HTB : Hid (∀ w3, wr.grownBy w3 (Value.slice dA dN dC).ownBlock → w3.cell? ⟨Q0, 0, none⟩ = some (.slice dA dN dC) ∧ w3.frozen? ⟨Q0, 0, none⟩ = false) := hide (by
                        intro w3 hg
                        have h1 : BC w3 Q0 29 _ := hbc.kf (F := fun b => (Value.slice dA dN dC).ownBlock = some b) (Kf.app (Kf.refl _ _) hg fun k e => .inl e) hdq
                        exact ⟨h1.cell 0, h1.frozen 0⟩)
                      have HPU : Hid (∀ v' w3, OW w3 W30.heap.size 35 eDone v' (acc ++ toldM s k) → wr.grownBy w3 (Value.slice dA dN dC).ownBlock → SvRel P s Q0 (.slice lA lN lC) W30 (.int .i64 ((k + 1 : Nat) : Int)) (w3.setCell ⟨Q0, 0, none⟩ v')) := hide (by
                        intro v' w3 ho hg
                        have h1 : BC w3 Q0 29 _ := hbc.kf (F := fun b => (Value.slice dA dN dC).ownBlock = some b) (Kf.app (Kf.refl _ _) hg fun k e => .inl e) hdq
                        refine ⟨k + 1, v', acc ++ toldM s k, hlt, rfl, by rw [hacc, List.range_succ, List.flatMap_append]; simp, by rw [List.length_append]; omega, h1.set (j := 0) (u := v'), ho.setCell (OW.bc_ne ho h1 (by decide)) _, ?_⟩
                        exact (Kf.app hkf hg fun j e => .inr (how.lt j e).1).set (.inl rfl))
                      have hlti : (k : Int) < (P.length : Int) := by omega
                      have HLT := hide hlt
                      clear xu hu hul hne n1 n2 hu2 how hkf hbc hacc hal hdq hlt
                      go_wp2_with (at_builtin; (with_reducible refine list_app (B := W30.heap.size) (l := acc) (m := (toldM s k)) row_done (.slice dA dN dC) ?_ (.tmp 121) (.tmp 122) ?_ ?_ ?_ ?_ HM1.out HM2.out ?_ ?_); (with_reducible rfl); (with_reducible rfl); rfl; (exact HOW.out); (exact HU.out); (exact HSZ.out); intro v3 w3 ho3 hg3 hat3; obtain ⟨x13, f13⟩ := HTB.out w3 hg3; obtain ⟨A5, N5, c5, rfl⟩ := ho3.rd.slice)
                      go_roundw
                      case rel =>
                        have h1 := HPU.out _ _ ho3 hg3
                        obtain ⟨k2, a1, a2, a3, a4, a5⟩ := h1
                        exact ⟨k2, a1, a2, a3, by rw [← a4]; go_num, a5⟩
                      case measure => simp [intOf]; have := HLT.out; omega
                    · have e0 : acc = doneL s P.length := by rw [hacc, show k = P.length by omega]; rfl
                      have HDN := hide (show OW wr W30.heap.size 35 eDone (.slice dA dN dC) (doneL s P.length) by rw [← e0]; exact how)
                      have x0 : wr.cell? ⟨Q0, 0, none⟩ = some (.slice dA dN dC) := hbc.cell 0
                      have x1 : wr.cell? ⟨Q0, 1, none⟩ = some (.slice lA lN lC) := hbc.cell 1
                      have hrw : BC wr R0 29 [.slice none 0 0, .slice none 0 0] := HRB.out.kf hkf (by have := HRQ.out; show ¬ R0 = Q0; omega)
                      have y0 := hrw.cell 0
                      have y1 := hrw.cell 1
                      have g0 := hrw.frozen 0
                      have g1 := hrw.frozen 1
                      have HF : Hid (RunPost alg l P o w (.returned (.tuple #[.agg #[.slice dA dN dC, .slice lA lN lC], .int .i64 0])) ((wr.setCell ⟨R0, 0, none⟩ (.slice dA dN dC)).setCell ⟨R0, 1, none⟩ (.slice lA lN lC))) := hide (by
                        have k1 : Kp w wr := hkf.kp HKW3.out (fun b e => by have e : b = Q0 := e; have := HRQ.out; have := HR0.out; omega)
                        have k2 := (k1.set (p := ⟨R0, 0, none⟩) (show w.heap.size ≤ R0 by rw [HR0.out]; exact Nat.le_refl _) (.slice dA dN dC)).set (p := ⟨R0, 1, none⟩) (show w.heap.size ≤ R0 by rw [HR0.out]; exact Nat.le_refl _) (.slice lA lN lC)
                        have hvl : RD wr eInt (.slice lA lN lC) (leftM s.m) := HVL.out.kf hkf (fun _ j e1 e2 => by have e2 : j = Q0 := e2; have := (HVR.out j e1).2; omega)
                        have hq : ∀ p : Addr, p.block = R0 → (Value.slice dA dN dC).ownBlock ≠ some p.block ∧ (Value.slice lA lN lC).ownBlock ≠ some p.block := fun p hp => by
                          rw [hp]
                          refine ⟨fun e => ?_, fun e => ?_⟩
                          · have := (HDN.out.lt R0 e).1; have := HRB.out.lt; omega
                          · have := (HVR.out R0 e).1; omega
                        have kfr : Kf (fun b => b = R0) wr ((wr.setCell ⟨R0, 0, none⟩ (.slice dA dN dC)).setCell ⟨R0, 1, none⟩ (.slice lA lN lC)) := Kf.set (p := ⟨R0, 1, none⟩) (Kf.set (p := ⟨R0, 0, none⟩) (Kf.refl _ wr) (.inl rfl)) (.inl rfl)
                        refine ⟨s, _, _, rfl, by rw [← HS1.out]; exact HFIN.out, ?_, ?_, k2⟩
                        · exact HDN.out.rd.kf kfr (fun _ j e1 e2 => by have e2 : j = R0 := e2; subst e2; exact (hq ⟨j, 0, none⟩ rfl).1 e1)
                        · exact hvl.kf kfr (fun _ j e1 e2 => by have e2 : j = R0 := e2; subst e2; exact (hq ⟨j, 0, none⟩ rfl).2 e1))
                      have HBF : Hid (BC ((wr.setCell ⟨R0, 0, none⟩ (.slice dA dN dC)).setCell ⟨R0, 1, none⟩ (.slice lA lN lC)) R0 29 [.slice dA dN dC, .slice lA lN lC]) := hide ((hrw.set (j := 0) (u := .slice dA dN dC)).set (j := 1) (u := .slice lA lN lC))
                      have hlti : ¬ (k : Int) < (P.length : Int) := by omega
                      clear e0 hacc hal hbc how hkf hrw hlt
                      go_wp2
                      refine bodyPost_ret (v := .tuple #[.agg #[.slice dA dN dC, .slice lA lN lC], .int .i64 0]) ?_ ?_ HF.out
                      · exact results_cell2 rfl _ _ R0 29 _ (0, 0) _ _ rfl rfl HBF.out Try.underlying29 rfl info_told2
                      · rfl
    · obtain ⟨d, rfl⟩ : ∃ d, c = d + 1 := ⟨c - 1, by omega⟩
      obtain rfl : K = (d : Int) := by omega
      have hd : d < l.length := by omega
      obtain ⟨b, oo, e, _, x0⟩ := (HL.out.kp (HK1.out.trans hB.kp)).int hd
      cases e
      have HB0 := hide (hB.push HK9.out (by omega) (l[d]) (mm0_ky hd).symm (by have := HK9.out _ (List.getElem_mem hd); omega))
      obtain ⟨x, hx⟩ : ∃ x, x = l[d]'hd := ⟨_, rfl⟩
      rw [← hx] at x0 HB0
      have s1 : IntKind.i64.wrap ((d : Int) - 1) = (d : Int) - 1 := IntWalk.i64_in _ (by omega)
      have hdl : (d : Int) < (l.length : Int) := by omega
      have hd0 : (0 : Int) ≤ (d : Int) := by omega
      clear hK hB hx h0
      unfold ptr at *
      go_wp2
      go_roundw
      case rel => exact ⟨d, _, _, by omega, rfl, rfl, by unfold ptr; rw [up_same], HB0.out⟩
      case measure => simp [intOf]
end Go.Proofs.Ytoihdnekkgpcoaa
namespace Go.Proofs.Ytoihdnekkgpcoaa
open Go.ChangeShapes Go.WideShapes Go.ChangeAt Go.RowKit
set_option linter.unusedVariables false
set_option linter.unusedSimpArgs false

set_option maxRecDepth 100000 in
set_option maxHeartbeats 2000000 in
theorem hrun_bad (algo : Int) (l : List Int) (P : List (List Dd)) (o : List Int) (vl vp vo : Value) (w : World) (hl : RD w eInt vl l) (hp : RDS w eDeed vp P) (ho : RD w eInt vo o) (hr : rgF algo l P o.length ≠ 0) :
    Calls Try.prog 9 #[.int .i64 algo, vl, vp, vo] w (fun e w' => e = .returned (.tuple #[.agg #[.slice none 0 0, .slice none 0 0], .int .i64 (rgF algo l P o.length)]) ∧ Kp w w') := by
  have HRG := hide (fun W (k : Kp w W) => hright_any algo l P o vl vp vo W (hl.kp k) (hp.kp k) (ho.kp k))
  obtain ⟨R, hR⟩ : ∃ R, R = rgF algo l P o.length := ⟨_, rfl⟩
  rw [← hR] at HRG hr ⊢
  have d1 : (R != 0) = true := by simpa using hr
  clear hl hp ho hR hr
  go_enter Try.func9, Try.ntmps9
  go_wp2_with fail
  refine (HRG.out _ ((Kp.refl w).alloc)).mono ?_
  rintro e w1 ⟨rfl, kk1⟩
  have hbR : BC w1 w.heap.size 29 [.slice none 0 0, .slice none 0 0] := (BC.new w 29 [.slice none 0 0, .slice none 0 0]).kp kk1
  have kw1 : Kp w w1 := (Kp.refl w).alloc.trans kk1
  have hge : w.heap.size ≤ w.heap.size := Nat.le_refl _
  obtain ⟨R0, hR0⟩ : ∃ R0, R0 = w.heap.size := ⟨_, rfl⟩
  rw [← hR0] at hbR ⊢
  have HF : Hid (Kp w ((w1.setCell ⟨R0, 0, none⟩ (.slice none 0 0)).setCell ⟨R0, 1, none⟩ (.slice none 0 0))) := hide ((kw1.set (p := ⟨R0, 0, none⟩) (show w.heap.size ≤ R0 by omega) (.slice none 0 0)).set (p := ⟨R0, 1, none⟩) (show w.heap.size ≤ R0 by omega) (.slice none 0 0))
  have HBF : Hid (BC ((w1.setCell ⟨R0, 0, none⟩ (.slice none 0 0)).setCell ⟨R0, 1, none⟩ (.slice none 0 0)) R0 29 [.slice none 0 0, .slice none 0 0]) := hide ((hbR.set (j := 0) (u := .slice none 0 0)).set (j := 1) (u := .slice none 0 0))
  have y0 : w1.cell? ⟨R0, 0, none⟩ = some (.slice none 0 0) := hbR.cell 0
  have y1 : w1.cell? ⟨R0, 1, none⟩ = some (.slice none 0 0) := hbR.cell 1
  have g0 := hbR.frozen 0
  have g1 := hbR.frozen 1
  clear hR0 hbR kk1 HRG kw1 hge
  go_wp2
  refine bodyPost_ret (v := .tuple #[.agg #[.slice none 0 0, .slice none 0 0], .int .i64 R]) ?_ ?_ ⟨rfl, HF.out⟩
  · exact results_cell2 rfl _ _ R0 29 _ (0, 0) _ _ rfl rfl HBF.out Try.underlying29 rfl info_told2
  · rfl
end Go.Proofs.Ytoihdnekkgpcoaa
namespace Go.Proofs.Ytoihdnekkgpcoaa
open Go.ChangeShapes Go.WideShapes Go.ChangeAt Go.RowKit
set_option linter.unusedVariables false
set_option linter.unusedSimpArgs false

def btw (n lo hi : Int) : Bool := decide (lo ≤ n ∧ n ≤ hi)
theorem btw_iff (n lo hi : Int) : btw n lo hi = true ↔ lo ≤ n ∧ n ≤ hi := by simp [btw]
theorem btw_f_iff (n lo hi : Int) : btw n lo hi = false ↔ ¬ (lo ≤ n ∧ n ≤ hi) := by simp [btw]
theorem btw_cases (n lo hi : Int) : (btw n lo hi = true ∧ lo ≤ n ∧ n ≤ hi) ∨ (btw n lo hi = false ∧ (n < lo ∨ hi < n)) := by
  by_cases h : lo ≤ n ∧ n ≤ hi
  · exact .inl ⟨(btw_iff _ _ _).2 h, h⟩
  · exact .inr ⟨(btw_f_iff _ _ _).2 h, by omega⟩

theorem between_any (n lo hi : Int) (w : World) :
    Calls Try.prog 21 #[.int .i64 n, .int .i64 lo, .int .i64 hi] w fun e w' => e = .returned (.bool (btw n lo hi)) ∧ w = w' := by
  by_cases h1 : lo ≤ n
  · by_cases h2 : n ≤ hi
    · go_enter Try.func21, Try.ntmps21
      go_wp2
      go_ret
      exact ⟨by simp [btw]; omega, rfl⟩
    · go_enter Try.func21, Try.ntmps21
      go_wp2
      go_ret
      exact ⟨by simp [btw]; omega, rfl⟩
  · go_enter Try.func21, Try.ntmps21
    go_wp2
    go_ret
    exact ⟨by simp [btw]; omega, rfl⟩
theorem between_to (n lo hi : Int) (b : Bool) (w : World) (h : btw n lo hi = b) :
    Calls Try.prog 21 #[.int .i64 n, .int .i64 lo, .int .i64 hi] w fun e w' => e = .returned (.bool b) ∧ w = w' := by
  have := between_any n lo hi w
  rwa [h] at this
def mrFrom (last : Int) : List IP → Int
  | [] => 0
  | p :: t => if btw p.1 (last + 1) 1000000 then mrFrom p.1 t else 3
def mapRight (l : List IP) : Int := if l.length > 200 then 2 else mrFrom (-1) l
theorem mrFrom_drop (l : List IP) (k : Nat) (h : k < l.length) (last : Int) : mrFrom last (l.drop k) = if btw l[k].1 (last + 1) 1000000 then mrFrom l[k].1 (l.drop (k+1)) else 3 := by
  rw [List.drop_eq_getElem_cons h, mrFrom]
theorem mrFrom_end (l : List IP) (k : Nat) (h : ¬ k < l.length) (last : Int) : mrFrom last (l.drop k) = 0 := by
  rw [List.drop_of_length_le (by omega)]; rfl

def MRel (l : List IP) (w : World) (v i : Value) (wr : World) : Prop :=
  ∃ (k : Nat) (last : Int), k ≤ l.length ∧ i = .int .i64 k ∧ v = .int .i64 last ∧ -1 ≤ last ∧ last ≤ 1000000 ∧ mrFrom last (l.drop k) = mrFrom (-1) l ∧ Below w.heap.size w wr

theorem mapRight_len (l : List IP) (h : mapRight l = 0) : l.length ≤ 200 := by
  unfold mapRight at h
  split at h
  · omega
  · omega

def CRel (l : List IP) (w : World) (i : Value) (wr : World) : Prop :=
  ∃ (k : Nat) (last : Int), k ≤ l.length ∧ i = .int .i64 k ∧ -1 ≤ last ∧ last ≤ 1000000 ∧ (k = 0 → last = -1) ∧ (∀ h : k - 1 < l.length, 0 < k → last = l[k-1].1 ∧ 0 ≤ last) ∧ mrFrom last (l.drop k) = mrFrom (-1) l ∧ Below w.heap.size w wr

end Go.Proofs.Ytoihdnekkgpcoaa
namespace Go.Proofs.Ytoihdnekkgpcoaa
open Go.ChangeShapes Go.WideShapes Go.ChangeAt Go.RowKit
set_option linter.unusedVariables false
set_option linter.unusedSimpArgs false

theorem eq_of_take {α : Type} {l m : List α} (hl : l.length = m.length) (h : ∀ j (h1 : j < l.length) (h2 : j < m.length), l[j] = m[j]) : l = m :=
  List.ext_getElem hl h

def SRel {α : Type} (l m : List α) (w : World) (i : Value) (wr : World) : Prop :=
  ∃ k : Nat, k ≤ l.length ∧ i = .int .i64 k ∧ (∀ j (h1 : j < l.length) (h2 : j < m.length), j < k → l[j] = m[j]) ∧ Below w.heap.size w wr
theorem SRel.on {α : Type} {l m : List α} {w wr' : World} {k : Nat} (h1 : k < l.length) (h2 : k < m.length) (h : ∀ j (h1 : j < l.length) (h2 : j < m.length), j < k → l[j] = m[j]) (he : l[k] = m[k])
    (hb : Below w.heap.size w wr') : SRel l m w (.int .i64 (k + 1 : Nat)) wr' :=
  ⟨k + 1, h1, rfl, fun j a b hj => by
    rcases Nat.lt_or_ge j k with hj' | hj'
    · exact h j a b hj'
    · obtain rfl : j = k := by omega
      exact he, hb⟩

set_option maxHeartbeats 400000 in
theorem sameInts_any (l m : List Int) (v u : Value) (w : World) (hl : RD w eInt v l) (hm : RD w eInt u m) :
    Calls Try.prog 20 #[v, u] w (Ret (.bool (decide (l = m))) w) := by
  obtain ⟨A, c, rfl, hc, hc'⟩ := hl.shape
  obtain ⟨A2, c2, rfl, hc2, hc2'⟩ := hm.shape
  have HL := hide hl
  have HM := hide hm
  clear hl hm
  by_cases hlen : l.length = m.length
  · have hb : ((l.length : Int) == (m.length : Int)) = true := by simp; omega
    have hn : ((l.length : Int) != (m.length : Int)) = false := by simp; omega
    have hlen' := hide hlen
    have g1 : l.length ≤ m.length := by omega
    have g2 : m.length ≤ l.length := by omega
    clear hlen
    go_enter Try.func20, Try.ntmps20
    go_wp2
    go_loopw [13] (SRel l m w) (fun i wr => l.length - (intOf i).toNat)
    case atStart => exact ⟨0, by omega, rfl, fun _ _ _ h => by omega, Below.refl _ _⟩
    case round =>
      obtain ⟨k, hk, rfl, hall, hbel⟩ := hrel
      have HA := hide hall
      clear hall
      by_cases hlt : k < l.length
      · obtain ⟨b, o, rfl, hb, c0⟩ := (HL.out.below hbel).int hlt
        obtain ⟨b2, o2, rfl, hb2, d0⟩ := (HM.out.below hbel).int (k := k) (by omega)
        have hlt2 : k < m.length := by omega
        by_cases he : l[k] = m[k]
        · have e1 : (l[k] != m[k]) = false := by simp [he]
          have he' := hide he
          clear he
          go_wp2_with fail
          go_quiet (fail)
          go_wp2
          go_roundw
          case rel => exact SRel.on hlt hlt2 HA.out he'.out (by repeat' (first | exact Below.refl _ _ | (with_reducible assumption) | apply Below.drew | apply below_drewN | apply Below.alloc | apply Below.setCell)
                                                                all_goals (first | omega | (simp; omega) | (simp; done)))
          case measure => simp [intOf]; omega
        · have hf : decide (l = m) = false := by
            simp only [decide_eq_false_iff_not]
            rintro rfl
            exact he rfl
          have e1 : (l[k] != m[k]) = true := by simp [he]
          have hf' := hide hf
          clear he hf
          go_wp2_with fail
          go_quiet (fail)
          go_wp2
          go_ret
          exact ⟨by rw [hf'.out]; rfl, (by repeat' (first | exact Below.refl _ _ | (with_reducible assumption) | apply Below.drew | apply below_drewN | apply Below.alloc | apply Below.setCell)
                                           all_goals (first | omega | (simp; omega) | (simp; done)))⟩
      · have ht : decide (l = m) = true := by
          simp only [decide_eq_true_eq]
          exact eq_of_take hlen'.out fun j a b => HA.out j a b (by omega)
        have ht' := hide ht
        clear ht
        go_wp2
        go_ret
        exact ⟨by rw [ht'.out]; rfl, hbel⟩
  · have hb : ((l.length : Int) == (m.length : Int)) = false := by simp; omega
    have hn : ((l.length : Int) != (m.length : Int)) = true := by simp; omega
    go_enter Try.func20, Try.ntmps20
    go_wp2
    go_ret
    exact ⟨by rw [decide_eq_false (fun h => hlen (by rw [h]))]; rfl, Below.refl _ _⟩
theorem sameInts_to (l m : List Int) (r : Bool) (v u : Value) (w : World) (hl : RD w eInt v l) (hm : RD w eInt u m) (h : decide (l = m) = r) :
    Calls Try.prog 20 #[v, u] w (Ret (.bool r) w) := by
  subst h
  exact sameInts_any l m v u w hl hm
end Go.Proofs.Ytoihdnekkgpcoaa
namespace Go.Proofs.Ytoihdnekkgpcoaa
open Go.ChangeShapes Go.WideShapes Go.ChangeAt Go.RowKit
set_option linter.unusedVariables false
set_option linter.unusedSimpArgs false

theorem kyOk_of {l : List Int} (h1 : ∀ x ∈ l, 0 ≤ x ∧ x ≤ 9) (h2 : l.Pairwise (· < ·)) : kyOk l l.length := by
  intro i hi
  have hg : ∀ i (hi : i < l.length), l.getD i 0 = l[i] := fun i hi => by simp [List.getD_eq_getElem?_getD, hi]
  refine ⟨by rw [hg i hi]; exact h1 _ (List.getElem_mem hi), fun h0 => ?_⟩
  rw [hg i hi, hg (i - 1) (by omega)]
  exact List.pairwise_iff_getElem.1 h2 (i - 1) i (by omega) hi (by omega)
theorem rgF_of {algo : Int} {l : List Int} {P : List (List Dd)} {n : Nat} (h1 : 1 ≤ algo ∧ algo ≤ 4) (h2 : n ≤ 500) (h : OkIn l P) : rgF algo l P n = 0 := by
  unfold rgF
  rw [if_neg (fun hh => hh h1), if_neg (fun hh => by rcases hh with hh | hh | hh; have := h.len; omega; omega; exact hh h.len2), if_pos ⟨kyOk_of h.keys h.sort, h.deeds⟩]
theorem rnd_stop {alg : Nat} {P : List (List Dd)} {s : St} (h : ∀ i, i < P.length → can P s i = false) : rnd alg P s = s := by
  unfold rnd
  have key : ∀ l : List Nat, (∀ i ∈ l, i < P.length) → l.foldl (stpL alg P) s = s := by
    intro l
    induction l with
    | nil => intro _; rfl
    | cons a t ih =>
      intro hl
      rw [List.foldl_cons]
      have e : stpL alg P s a = s := by
        unfold stpL
        split
        · exact stpO_cannot _ _ _ _ (h a (hl a (by simp)))
        · rfl
      rw [e]
      exact ih fun i hi => hl i (by simp [hi])
  exact key _ fun i hi => List.mem_range.1 hi
theorem two_of {p : Nat → Prop} (h0 : p 0) (h1 : p 1) : ∀ i, i < 2 → p i := by
  intro i hi
  have : i = 0 ∨ i = 1 := by omega
  rcases this with rfl | rfl
  · exact h0
  · exact h1
def Pl : List (List Dd) := [[⟨1, 5⟩], [⟨3, 5⟩]]
def bl : St := itR 1 Pl (ordS 1 Pl [0, 0, 0, 0, 0] (st0 [3])) 12
theorem bl_fin : FinR 1 Pl (ordS 1 Pl [0, 0, 0, 0, 0] (st0 [3])) bl := ⟨12, rfl, rnd_stop (two_of (p := fun i => can Pl bl i = false) (by decide +kernel) (by decide +kernel))⟩
theorem bl_done : doneL bl 2 = [(0, 0, ⟨0, 4, true⟩), (1, 0, ⟨5, 9, true⟩)] := by kernel_rfl
theorem bl_left : leftM bl.m = [3, 5] := by decide +kernel
def Pn : List (List Dd) := [[⟨1, 1⟩], [⟨1, 2⟩]]
def bn : St := itR 4 Pn (ordS 4 Pn [0, 0, 1, 1, 0, 1] (st0 [])) 12
theorem bn_fin : FinR 4 Pn (ordS 4 Pn [0, 0, 1, 1, 0, 1] (st0 [])) bn := ⟨12, rfl, rnd_stop (two_of (p := fun i => can Pn bn i = false) (by decide +kernel) (by decide +kernel))⟩
theorem bn_done : doneL bn 2 = [(0, 0, ⟨0, 4, true⟩), (1, 0, ⟨2, 5, true⟩)] := by kernel_rfl
theorem bn_left : leftM bn.m = [2] := by decide +kernel
theorem Pl_ok : OkIn [3] Pl := ⟨by decide, by decide, by decide, by decide, by intro x hx d hd; simp [Pl] at hx; rcases hx with rfl | rfl <;> simp at hd <;> subst hd <;> simp [okD]⟩
theorem Pn_ok : OkIn [] Pn := ⟨by decide, by decide, by decide, by decide, by intro x hx d hd; simp [Pn] at hx; rcases hx with rfl | rfl <;> simp at hd <;> subst hd <;> simp [okD]⟩
def RunIs (dn : List (Nat × Nat × Dn)) (lf : List Int) (w : World) (e : Ending) (w' : World) : Prop := ∃ vd vl, e = .returned (.tuple #[.agg #[vd, vl], .int .i64 0]) ∧ RD w' eDone vd dn ∧ RD w' eInt vl lf ∧ Kp w w'
set_option maxRecDepth 100000 in
theorem run_lv (vl vp vo : Value) (w : World) (hl : RD w eInt vl [3]) (hp : RDS w eDeed vp Pl) (ho : RD w eInt vo [0, 0, 0, 0, 0]) : Calls Try.prog 9 #[.int .i64 1, vl, vp, vo] w (RunIs [(0, 0, ⟨0, 4, true⟩), (1, 0, ⟨5, 9, true⟩)] [3, 5] w) := by
  refine (hrun_any 1 [3] Pl [0, 0, 0, 0, 0] vl vp vo w hl hp ho (rgF_of (by decide) (by decide) Pl_ok)).mono ?_
  rintro e w' ⟨s, vd, vf, rfl, hf, h1, h2, hk⟩
  have e1 := fin_one 1 Pl _ s bl hf bl_fin
  subst e1
  rw [bl_left] at h2
  have e2 : doneL bl Pl.length = _ := bl_done
  rw [e2] at h1
  exact ⟨vd, vf, rfl, h1, h2, hk⟩
set_option maxRecDepth 100000 in
theorem run_nv (vp vo : Value) (w : World) (hp : RDS w eDeed vp Pn) (ho : RD w eInt vo [0, 0, 1, 1, 0, 1]) : Calls Try.prog 9 #[.int .i64 4, .slice none 0 0, vp, vo] w (RunIs [(0, 0, ⟨0, 4, true⟩), (1, 0, ⟨2, 5, true⟩)] [2] w) := by
  refine (hrun_any 4 [] Pn [0, 0, 1, 1, 0, 1] (.slice none 0 0) vp vo w RD.nil hp ho (rgF_of (by decide) (by decide) Pn_ok)).mono ?_
  rintro e w' ⟨s, vd, vf, rfl, hf, h1, h2, hk⟩
  have e1 := fin_one 4 Pn _ s bn hf bn_fin
  subst e1
  rw [bn_left] at h2
  have e2 : doneL bn Pn.length = _ := bn_done
  rw [e2] at h1
  exact ⟨vd, vf, rfl, h1, h2, hk⟩
theorem RD.done {w : World} {A : Option Addr} {n c : Nat} {l : List (Nat × Nat × Dn)} (h : RD w eDone (.slice A n c) l) {k : Nat} (hk : k < l.length) :
    ∃ b o, A = some ⟨b, o, none⟩ ∧ b < w.heap.size ∧ w.cell? ⟨b, o + k * 5, none⟩ = some (.int .i64 l[k].1) ∧ w.cell? ⟨b, o + k * 5 + 1, none⟩ = some (.int .i64 l[k].2.1) ∧ w.cell? ⟨b, o + k * 5 + 2, none⟩ = some (.int .i64 l[k].2.2.bgn) ∧
      w.cell? ⟨b, o + k * 5 + 3, none⟩ = some (.int .i64 l[k].2.2.fin) ∧ w.cell? ⟨b, o + k * 5 + 4, none⟩ = some (.bool l[k].2.2.is) := by
  obtain ⟨b, o, rfl, hb, hc⟩ := h.at_ hk
  exact ⟨b, o, rfl, hb, hc 0 (by decide), hc 1 (by decide), hc 2 (by decide), hc 3 (by decide), hc 4 (by decide)⟩
set_option maxRecDepth 100000 in
set_option maxHeartbeats 2000000 in
theorem hlives_any (w : World) : Calls Try.prog 10 #[] w (Ret (.bool true) w) := by
  have HRL := hide run_lv
  obtain ⟨os, hos⟩ : ∃ os : List Obj, os = [.cells #[.int .i64 3] 3, .cells #[.int .i64 1, .int .i64 5] 23, .cells #[.int .i64 3, .int .i64 5] 23, .cells #[.slice (some ⟨w.heap.size + 1, 0, none⟩) 1 1, .slice (some ⟨w.heap.size + 1 + 1, 0, none⟩) 1 1] 24, .cells #[.int .i64 0, .int .i64 0, .int .i64 0, .int .i64 0, .int .i64 0] 3] := ⟨_, rfl⟩
  have b0 : BC (os.foldl (fun w o => w.alloc o) w) (w.heap.size + 0) 3 [.int .i64 3] := BC.made os w 0 (by rw [hos]; rfl)
  have b1 : BC (os.foldl (fun w o => w.alloc o) w) (w.heap.size + 1) 23 [.int .i64 1, .int .i64 5] := BC.made os w 1 (by rw [hos]; rfl)
  have b2 : BC (os.foldl (fun w o => w.alloc o) w) (w.heap.size + 2) 23 [.int .i64 3, .int .i64 5] := BC.made os w 2 (by rw [hos]; rfl)
  have b3 : BC (os.foldl (fun w o => w.alloc o) w) (w.heap.size + 3) 24 [.slice (some ⟨w.heap.size + 1, 0, none⟩) 1 1, .slice (some ⟨w.heap.size + 1 + 1, 0, none⟩) 1 1] := BC.made os w 3 (by rw [hos]; rfl)
  have b4 : BC (os.foldl (fun w o => w.alloc o) w) (w.heap.size + 4) 3 [.int .i64 0, .int .i64 0, .int .i64 0, .int .i64 0, .int .i64 0] := BC.made os w 4 (by rw [hos]; rfl)
  have kk : Kp w (os.foldl (fun w o => w.alloc o) w) := by rw [hos]; exact (Kp.refl w).alloc.alloc.alloc.alloc.alloc
  obtain ⟨W, hW⟩ : ∃ W, W = os.foldl (fun w o => w.alloc o) w := ⟨_, rfl⟩
  rw [← hW] at b0 b1 b2 b3 b4 kk
  have HB : Hid (RD W eInt (.slice (some ⟨w.heap.size, 0, none⟩) 1 1) [3] ∧ RDS W eDeed (.slice (some ⟨w.heap.size + 1 + 1 + 1, 0, none⟩) 2 2) Pl ∧ RD W eInt (.slice (some ⟨w.heap.size + 1 + 1 + 1 + 1, 0, none⟩) 5 5) [0, 0, 0, 0, 0]) := hide (by
    refine ⟨RD.block (l := [3]) b0 rfl (by decide), ⟨_, _, rfl, by decide, by decide, fun _ => ⟨w.heap.size + 3, 0, rfl, b3.lt, fun k hk => ?_⟩⟩, RD.block (l := [0, 0, 0, 0, 0]) b4 rfl (by decide)⟩
    match k, hk with
    | 0, _ => exact ⟨_, b3.cell 0, RD.block (l := [(⟨1, 5⟩ : Dd)]) b1 rfl (by decide)⟩
    | 1, _ => exact ⟨_, b3.cell 1, RD.block (l := [(⟨3, 5⟩ : Dd)]) b2 rfl (by decide)⟩)
  rw [hos] at hW
  have hW : W = ((((w.alloc (.cells #[.int .i64 3] 3)).alloc (.cells #[.int .i64 1, .int .i64 5] 23)).alloc (.cells #[.int .i64 3, .int .i64 5] 23)).alloc (.cells #[.slice (some ⟨w.heap.size + 1, 0, none⟩) 1 1, .slice (some ⟨w.heap.size + 1 + 1, 0, none⟩) 1 1] 24)).alloc (.cells #[.int .i64 0, .int .i64 0, .int .i64 0, .int .i64 0, .int .i64 0] 3) := hW
  have HW := hide hW
  have HK := hide kk
  clear b0 b1 b2 b3 b4 kk hW hos
  go_enter Try.func10, Try.ntmps10
  go_wp2_with fail
  rw [← HW.out]
  refine (HRL.out _ _ _ W HB.out.1 HB.out.2.1 HB.out.2.2).mono ?_
  rintro e w1 ⟨vd, vl, rfl, hd, hl, hk⟩
  obtain ⟨dA, dC, rfl, hdc, _⟩ := hd.shape
  obtain ⟨lA, lC, rfl, hlc, _⟩ := hl.shape
  have kk1 := HK.out.trans hk
  obtain ⟨b, o, rfl, _, x0, x1, x2, x3, x4⟩ := hd.done (k := 0) (by decide)
  obtain ⟨_, _, e, _, y0, y1, y2, y3, y4⟩ := hd.done (k := 1) (by decide)
  cases e
  simp only [List.getElem_cons_zero, List.getElem_cons_succ, List.length_cons, List.length_nil, Nat.zero_mul, Nat.one_mul, Nat.add_zero] at x0 x1 x2 x3 x4 y0 y1 y2 y3 y4 hdc hlc
  have HS : Hid (∀ (x y : Value) (W2 : World), W2 = (w1.alloc (.cells #[x, y] 29)).alloc (.cells #[.int .i64 3, .int .i64 5] 3) → Calls Try.prog 20 #[.slice lA 2 lC, .slice (some ⟨w1.heap.size + 1, 0, none⟩) 2 2] W2 (fun e w' => e = .returned (.bool true) ∧ Kp w w')) := hide (by
    intro x y W2 hW2
    have k2 : Kp w1 W2 := by rw [hW2]; exact (Kp.refl w1).alloc.alloc
    have b2 : BC W2 (w1.heap.size + 1) 3 [.int .i64 3, .int .i64 5] := by rw [hW2]; exact BC.made [.cells #[x, y] 29, .cells #[.int .i64 3, .int .i64 5] 3] w1 1 rfl
    exact (sameInts_to [3, 5] [3, 5] true _ _ _ (hl.kp k2) (RD.block (l := [3, 5]) b2 rfl (by decide)) (by decide)).mono fun e w' h => ⟨h.1, kk1.trans (k2.trans (Kp.of h.2))⟩)
  clear hd hl hk kk1
  go_wp2_with fail
  refine (HS.out _ _ _ rfl).mono ?_
  rintro e w2 ⟨rfl, hb2⟩
  have HK2 := hide hb2
  clear hb2
  go_wp2
  go_ret
  exact ⟨rfl, HK2.out.bel⟩
end Go.Proofs.Ytoihdnekkgpcoaa
