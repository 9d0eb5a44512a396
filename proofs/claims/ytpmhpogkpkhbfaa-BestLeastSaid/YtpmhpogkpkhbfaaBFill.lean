/-
  best.filled: the walk. Conditions: the lists read as they are named (RD).
-/
import Derived.Test.YtpmhpogkpkhbfaaBTab2
import Derived.StillTailTactics
namespace Go.Proofs.Ytpmhpogkpkhbfaa
open Go.ChangeShapes Go.WideShapes Go.ChangeAt Go.RowKit
set_option linter.unusedVariables false
set_option linter.unusedSimpArgs false

/-- The first loop: so many rows are made. -/
def B1Rel (w0 : World) (b0 rb c : Nat) (iv : Value) (w : World) : Prop :=
  ∃ (k : Nat) (X : Nat → Value) (BS : Nat → List Nat) (γ : Nat → Nat), k ≤ c ∧ iv = .int .i64 (k : Int) ∧ Kp w0 w ∧ BC w rb 56 [.slice none 0 0, .slice none 0 0, .slice none 0 0] ∧ BC w b0 56 [X 0, X 1, X 2] ∧
    ∀ i, i < 3 → (BS i).length = k ∧ TbC w w0.heap.size c γ i (X i) (BS i)
def gD (l : List Int) (k : Nat) : Int := l.getD k 0
theorem gD_at {l : List Int} {k : Nat} (h : k < l.length) : l[k] = gD l k := by
  rw [gD, List.getD_eq_getElem?_getD, List.getElem?_eq_getElem h]; rfl
theorem gD_in {l : List Int} (h : ∀ x ∈ l, 0 ≤ x ∧ x ≤ 1000) (k : Nat) : 0 ≤ gD l k ∧ gD l k ≤ 1000 := by
  rw [gD, List.getD_eq_getElem?_getD]
  by_cases e : k < l.length
  · rw [List.getElem?_eq_getElem e]; exact h _ (List.getElem_mem e)
  · rw [List.getElem?_eq_none (by omega)]; simp
theorem Mset_same (M : Nat → Nat → Nat → Int) (i r q : Nat) : Mset M i r q (M i r q) = M := by
  funext j s t
  by_cases h : j = i ∧ s = r ∧ t = q
  · obtain ⟨rfl, rfl, rfl⟩ := h
    exact Mset_at
  · exact Mset_ne h
theorem Mset_twice (M : Nat → Nat → Nat → Int) (i r q : Nat) (x y : Int) : Mset (Mset M i r q x) i r q y = Mset M i r q y := by
  funext j s t
  by_cases h : j = i ∧ s = r ∧ t = q
  · obtain ⟨rfl, rfl, rfl⟩ := h
    rw [Mset_at, Mset_at]
  · rw [Mset_ne h, Mset_ne h, Mset_ne h]
/-- What filled answers: the costs and the tops of all parts. -/
def FiPost (h g : Nat → Int) (n : Nat) (w : World) (e : Ending) (w' : World) : Prop := ∃ (x1 x3 : Value) (A2 : Option Addr) (N2 C2 : Nat) (M : Nat → Nat → Nat → Int), e = .returned (.agg #[x1, .slice A2 N2 C2, x3]) ∧ RDS w' eInt x1 ((List.range (n + 1)).map fun r => (List.range (n + 1)).map (M 0 r)) ∧
  RDS w' eInt x3 ((List.range (n + 1)).map fun r => (List.range (n + 1)).map (M 2 r)) ∧ (∀ i j, i ≤ j → j ≤ n → M 0 i j = bc h g i j ∧ (i < j → M 2 i j = bt h g i j)) ∧ Kp w w'
/-- The second loop: the parts of no key. -/
def B2Rel (w : World) (b0 rb c : Nat) (O P : Nat → Nat) (R : Nat → Nat → Nat) (g : Nat → Int) (iv : Value) (wr : World) : Prop := ∃ (k : Nat) (M : Nat → Nat → Nat → Int), k ≤ c ∧ iv = .int .i64 (k : Int) ∧ Tb w b0 rb c O P R M wr ∧ (∀ j, j < k → M 1 j j = g j) ∧ ∀ j, M 0 j j = 0
def B3Rel (w : World) (b0 rb c : Nat) (O P : Nat → Nat) (R : Nat → Nat → Nat) (h g : Nat → Int) (n : Nat) (iv : Value) (wr : World) : Prop := ∃ (L : Nat) (M : Nat → Nat → Nat → Int), 1 ≤ L ∧ L ≤ c ∧ iv = .int .i64 (L : Int) ∧ Tb w b0 rb c O P R M wr ∧ Dn h g n L 0 M
def B4Rel (w : World) (b0 rb c : Nat) (O P : Nat → Nat) (R : Nat → Nat → Nat) (h g : Nat → Int) (n L : Nat) (iv : Value) (wr : World) : Prop := ∃ (i : Nat) (M : Nat → Nat → Nat → Int), i + L ≤ c ∧ iv = .int .i64 (i : Int) ∧ Tb w b0 rb c O P R M wr ∧ Dn h g n L i M
def B5Rel (w : World) (b0 rb c : Nat) (O P : Nat → Nat) (R : Nat → Nat → Nat) (f : Nat → Int) (lo hi i j : Nat) (M : Nat → Nat → Nat → Int) (bv rv : Value) (wr : World) : Prop :=
  ∃ m : Nat, lo + m ≤ hi + 1 ∧ rv = .int .i64 ((lo + m : Nat) : Int) ∧ bv = .int .i64 (scanN f (M 2 i j) lo m).1 ∧ Tb w b0 rb c O P R (Mset M 2 i j (scanN f (M 2 i j) lo m).2) wr
theorem filled_end {h g : Nat → Int} {n k b0 : Nat} {w wc : World} {O P : Nat → Nat} {R : Nat → Nat → Nat} {M : Nat → Nat → Nat → Int} {act : Act} (hT : Tb w b0 w.heap.size k O P R M wc) (hk : k = n + 1) (hcl : k ≤ 21) (hPF : ∀ i j, i ≤ j → j ≤ n → M 0 i j = bc h g i j ∧ (i < j → M 2 i j = bt h g i j))
    (h4 : act.tmps.getD 4 undef = .pointer (some ⟨w.heap.size, 0, none⟩)) (hd : act.defers = []) :
    bodyPost Try.prog Try.f25 (FiPost h g n w) .ret act (((wc.setCell ⟨w.heap.size, 0, none⟩ (Value.slice (some ⟨O 0, 0, none⟩) k (P 0))).setCell ⟨w.heap.size, 1, none⟩ (Value.slice (some ⟨O 1, 0, none⟩) k (P 1))).setCell ⟨w.heap.size, 2, none⟩ (Value.slice (some ⟨O 2, 0, none⟩) k (P 2))) := by
  obtain ⟨W9, hW9⟩ : ∃ W9, W9 = (((wc.setCell ⟨w.heap.size, 0, none⟩ (Value.slice (some ⟨O 0, 0, none⟩) k (P 0))).setCell ⟨w.heap.size, 1, none⟩ (Value.slice (some ⟨O 1, 0, none⟩) k (P 1))).setCell ⟨w.heap.size, 2, none⟩ (Value.slice (some ⟨O 2, 0, none⟩) k (P 2))) := ⟨_, rfl⟩
  rw [← hW9]
  have hb9 : BC W9 w.heap.size 56 [Value.slice (some ⟨O 0, 0, none⟩) k (P 0), Value.slice (some ⟨O 1, 0, none⟩) k (P 1), Value.slice (some ⟨O 2, 0, none⟩) k (P 2)] := by
    rw [hW9]
    exact ((hT.2.2.1.set (j := 0)).set (j := 1)).set (j := 2)
  have c0 := hb9.cell 0
  have c1 := hb9.cell 1
  have c2 := hb9.cell 2
  simp only [List.getElem?_cons_zero, List.getElem?_cons_succ] at c0 c1 c2
  have hkf : Kf (fun o => o = w.heap.size) wc W9 := by
    rw [hW9]
    exact Kf.set (Kf.set (Kf.set (Kf.refl _ _) (.inl rfl)) (.inl rfl)) (.inl rfl)
  have hk9 : Kp w W9 := hkf.kp hT.1 (fun o ho => by omega)
  have h1 := hT.rds2 hkf (i := 0) (by decide) hcl
  have h3 := hT.rds2 hkf (i := 2) (by decide) hcl
  refine ⟨hd, .agg #[Value.slice (some ⟨O 0, 0, none⟩) k (P 0), Value.slice (some ⟨O 1, 0, none⟩) k (P 1), Value.slice (some ⟨O 2, 0, none⟩) k (P 2)], ?_, _, _, _, _, _, M, rfl, ?_, ?_, hPF, hk9⟩
  · rw [Array.getD_eq_getD_getElem?] at h4
    simp [results, Try.results25, go_sem, h4, c0, c1, c2]
  · rw [← hk]; exact h1
  · rw [← hk]; exact h3
set_option maxRecDepth 100000 in
set_option maxHeartbeats 16000000 in
theorem filled_any (hits gaps : List Int) (v u : Value) (w : World) (hr : RD w eInt v hits) (hu : RD w eInt u gaps) (hl : hits.length ≤ 20) (hg : gaps.length = hits.length + 1) (hbh : ∀ x ∈ hits, 0 ≤ x ∧ x ≤ 1000) (hbg : ∀ x ∈ gaps, 0 ≤ x ∧ x ≤ 1000) : Calls Try.prog 25 #[v, u] w (FiPost (gD hits) (gD gaps) hits.length w) := by
  obtain ⟨A1, c1, rfl, _, _⟩ := hr.shape
  obtain ⟨A2, c2, rfl, _, _⟩ := hu.shape
  obtain ⟨n, hn⟩ : ∃ n, n = hits.length := ⟨_, rfl⟩
  obtain ⟨c, hc⟩ : ∃ c, c = n + 1 := ⟨_, rfl⟩
  rw [← hn] at hl hr hg ⊢
  rw [← hc] at hg
  rw [hg] at hu ⊢
  have hwr : IntKind.i64.wrap ((n : Int) + 1) = (c : Int) := by rw [IntWalk.i64_in _ (by omega), hc]; simp
  obtain ⟨C, HC, hmk⟩ := run_mk (P := Try.prog) row_int 0 zero_int c (by omega) (by unfold maxLen; omega)
  replace hmk := hide hmk
  have HB1 := hide (gD_in hbh)
  have HB2 := hide (gD_in hbg)
  have HHR := hide hr
  have HHU := hide hu
  have HGL := hide hg
  have hcl : c ≤ 21 := by omega
  have HCC := hide hc
  have HN := hide hn
  clear hr hu hg hc hn hbh hbg
  go_enter Try.func25, Try.ntmps25
  go_wp2
  obtain ⟨b0, hbt⟩ : ∃ b0, b0 = w.heap.size + 1 := ⟨_, rfl⟩
  rw [← hbt]
  have HBT := hide hbt
  clear hbt
  go_loopw [20] (B1Rel w b0 w.heap.size c) (fun k _ => c - (intOf k).toNat)
  case atStart =>
    refine ⟨0, fun _ => .slice none 0 0, fun _ => [], fun _ => 0, by omega, rfl, (Kp.refl w).alloc.alloc, ?_, ?_, fun i hi => ⟨rfl, OW.nil, fun o h => by simp [Value.ownBlock] at h, fun b h => (by cases h), List.nodup_nil⟩⟩
    · exact (BC.new w _ [.slice none 0 0, .slice none 0 0, .slice none 0 0]).kp (Kp.refl _).alloc
    · have := BC.new (w.alloc (.cells #[.slice none 0 0, .slice none 0 0, .slice none 0 0] 56)) 56 [.slice none 0 0, .slice none 0 0, .slice none 0 0]
      rw [HBT.out]
      simpa using this
  case round =>
    obtain ⟨k, X, BS, γ, hk, rfl, hkp, hrb, hbt, hX⟩ := hrel
    by_cases hlt : k < c
    · have HBN : Hid (∀ i, i < 3 → (BS i).length ≤ 1000) := hide (fun i hi => by rw [(hX i hi).1]; omega)
      have hk0 : JW w b0 w.heap.size c wr.heap.size X BS (Array.replicate 27 false) wr.drew γ := by
        refine ⟨hkp.drew, by have := HBT.out; omega, hbt.lt, hkp.size, Nat.le_refl _, ⟨hrb, by have := HBT.out; omega⟩, X, hbt, fun i hi => ?_⟩
        have hf : ∀ j, j < 27 → (Array.replicate 27 false).getD j true = false := fun j hj => by simp [Array.getD, hj]
        rw [hf _ (by omega), hf _ (by omega), hf _ (by omega)]
        obtain ⟨_, ht⟩ := hX i hi
        exact ⟨fun h => (by cases h), fun h => (by cases h), fun o ho => (ht.1.lt o ho).2, fun b hb => (ht.2.2.1 b hb).1.lt, fun _ => rfl, fun _ => ht, fun h => (by cases h)⟩
      have HK0 := hide hk0
      have HXX := hide hX
      clear hk0 hX
      go_wp2_with fail
      refine wp_region_tabG (by kernel_rfl) [(22, .pointer (some ⟨b0, 0, none⟩)), (23, X 0), (24, .int .i64 (n : Int)), (25, .int .i64 (c : Int)), (29, .pointer (some ⟨b0, 1, none⟩)), (30, X 1), (31, .int .i64 (n : Int)), (32, .int .i64 (c : Int)), (36, .pointer (some ⟨b0, 2, none⟩)), (37, X 2), (38, .int .i64 (n : Int)), (39, .int .i64 (c : Int)), (43, .pointer (some ⟨b0, 0, none⟩)), (44, .pointer (some ⟨b0, 1, none⟩)), (45, .pointer (some ⟨b0, 2, none⟩))] (GG w c wr.heap.size BS) (JW w b0 w.heap.size c wr.heap.size X BS) γ HK0.out (by kernel_rfl) (by kernel_rfl) ?_ ?_
      · refine ⟨?_, ?_, ?_, ?_, ?_, ?_, ?_, ?_, ?_, ?_, ?_, ?_, ?_, ?_, ?_, ?_, ?_, ?_, ?_, ?_, ?_, ?_, ?_, ?_, ?_, ?_, ?_, trivial⟩
        · intro hop L a w5 γ hs hk hl ha keep know spec
          have h6 := keep 6 (.pointer (some ⟨b0, 0, none⟩)) (by kernel_rfl) rfl
          exact wpOp_value hop (wanted_none rfl) (v := .pointer (some ⟨b0, 0, none⟩)) (by simp only [execOp, Act.eval, h6]; go_simp) ⟨_, γ, rfl, hk.go (Kp.refl _) (fun _ _ => rfl) (fun j hj => by omega), (fun d hd => by injection hd with hd; subst hd; exact ⟨tab rfl, GG.none (fun j hj => by omega)⟩), fun _ _ _ h => h⟩
        · intro hop L a w5 γ hs hk hl ha keep know spec
          have h22 := know 22 (.pointer (some ⟨b0, 0, none⟩)) (by kernel_rfl) rfl
          exact wpOp_value hop (wanted_none rfl) (v := X 0) (by simp only [execOp, Act.eval, h22]; exact run_v (tb_load hk (i := 0) (by decide) (by simpa using hl))) ⟨_, γ, rfl, hk.go (Kp.refl _) (fun _ _ => rfl) (fun j hj => by omega), (fun d hd => by injection hd with hd; subst hd; exact ⟨tab rfl, GG.none (fun j hj => by omega)⟩), fun _ _ _ h => h⟩
        · intro hop L a w5 γ hs hk hl ha keep know spec
          have h5 := keep 5 (.int .i64 (n : Int)) (by kernel_rfl) rfl
          exact wpOp_value hop (wanted_none rfl) (v := .int .i64 (n : Int)) (by simp only [execOp, Act.eval, h5]; rfl) ⟨_, γ, rfl, hk.go (Kp.refl _) (fun _ _ => rfl) (fun j hj => by omega), (fun d hd => by injection hd with hd; subst hd; exact ⟨tab rfl, GG.none (fun j hj => by omega)⟩), fun _ _ _ h => h⟩
        · intro hop L a w5 γ hs hk hl ha keep know spec
          have h24 := know 24 (.int .i64 (n : Int)) (by kernel_rfl) rfl
          exact wpOp_value hop (wanted_none rfl) (v := .int .i64 (c : Int)) (by simp only [execOp, Act.eval, h24]; go_simp <;> simp only [hwr]) ⟨_, γ, rfl, hk.go (Kp.refl _) (fun _ _ => rfl) (fun j hj => by omega), (fun d hd => by injection hd with hd; subst hd; exact ⟨tab rfl, GG.none (fun j hj => by omega)⟩), fun _ _ _ h => h⟩
        · intro hop L a w5 γ hs hk hl ha keep know spec
          have h25 := know 25 (.int .i64 (c : Int)) (by kernel_rfl) rfl
          exact wpOp_value hop (wanted_none rfl) (v := .slice (some ⟨w5.heap.size, 0, none⟩) c c) (w' := w5.alloc (.cells C 3)) (by simp only [execOp, Act.eval, h25]; exact run_v (hmk.out w5)) ⟨_, upd γ w5.heap.size 0, rfl, hk.go (Kp.refl _).alloc (fun _ ho => upd_lt ho) (fun j hj => by omega), (fun d hd => by injection hd with hd; subst hd; exact ⟨tab_none rfl, gg_make hk (i := 0) (by decide) (AR.made HC)⟩), fun _ _ _ h => h.kp (Kp.refl _).alloc (fun _ ho => upd_lt ho)⟩
        · intro hop L a w5 γ hs hk hl ha keep know spec
          obtain ⟨b, e26, h1, h2, h3⟩ := (spec 26 (by kernel_rfl) 0 (by decide)).1 rfl
          exact wpOp_value hop (wanted_none rfl) (v := .slice (some ⟨w5.heap.size, 0, none⟩) 1 1) (w' := w5.alloc (.cells #[.slice (some ⟨b, 0, none⟩) c c] 22)) (by simp only [execOp, Act.eval, List.map_toArray, List.map_cons, List.map_nil, e26]; go_simp) ⟨_, γ, rfl, hk.go (Kp.refl _).alloc (fun _ _ => rfl) (fun j hj => by omega), (fun d hd => by injection hd with hd; subst hd; exact ⟨tab_none rfl, gg_build hk (by decide) h1 h2 h3⟩), fun _ _ _ h => h.kp (Kp.refl _).alloc (fun _ _ => rfl)⟩
        · intro hop L a w5 γ hs hk hl ha keep know spec
          have h23 := know 23 (X 0) (by kernel_rfl) rfl
          obtain ⟨b, b', e27, h0, hB', h1, h2, h3⟩ := (spec 27 (by kernel_rfl) 0 (by decide)).2.1 rfl
          obtain ⟨v', w', hr, hov, hgr, hat⟩ := tb_run 31 hk (i := 0) (by decide) (by simpa using hl) (HBN.out 0 (by decide)) h0
          have hq := tb_app hk (i := 0) (by decide) (by simpa using hl) (after_done ha (k := 1) (by kernel_rfl)) h2 h1 h3 hov hgr hat
          exact wpOp_value hop (wanted_none rfl) (v := v') (w' := w') (run_exec_app (.tmp 23) (.tmp 27) rfl h23 e27 hr) ⟨_, upd γ w5.heap.size 0, rfl, hq.1, (fun d hd => by injection hd with hd; subst hd; exact ⟨tab_none rfl, hq.2.1⟩), fun d u hd h => hq.2.2 d u (fun e => hd (by rw [e])) h⟩
        · intro hop L a w5 γ hs hk hl ha keep know spec
          have h6 := keep 6 (.pointer (some ⟨b0, 0, none⟩)) (by kernel_rfl) rfl
          exact wpOp_value hop (wanted_none rfl) (v := .pointer (some ⟨b0, 1, none⟩)) (by simp only [execOp, Act.eval, h6]; go_simp) ⟨_, γ, rfl, hk.go (Kp.refl _) (fun _ _ => rfl) (fun j hj => by omega), (fun d hd => by injection hd with hd; subst hd; exact ⟨tab rfl, GG.none (fun j hj => by omega)⟩), fun _ _ _ h => h⟩
        · intro hop L a w5 γ hs hk hl ha keep know spec
          have h29 := know 29 (.pointer (some ⟨b0, 1, none⟩)) (by kernel_rfl) rfl
          exact wpOp_value hop (wanted_none rfl) (v := X 1) (by simp only [execOp, Act.eval, h29]; exact run_v (tb_load hk (i := 1) (by decide) (by simpa using hl))) ⟨_, γ, rfl, hk.go (Kp.refl _) (fun _ _ => rfl) (fun j hj => by omega), (fun d hd => by injection hd with hd; subst hd; exact ⟨tab rfl, GG.none (fun j hj => by omega)⟩), fun _ _ _ h => h⟩
        · intro hop L a w5 γ hs hk hl ha keep know spec
          have h5 := keep 5 (.int .i64 (n : Int)) (by kernel_rfl) rfl
          exact wpOp_value hop (wanted_none rfl) (v := .int .i64 (n : Int)) (by simp only [execOp, Act.eval, h5]; rfl) ⟨_, γ, rfl, hk.go (Kp.refl _) (fun _ _ => rfl) (fun j hj => by omega), (fun d hd => by injection hd with hd; subst hd; exact ⟨tab rfl, GG.none (fun j hj => by omega)⟩), fun _ _ _ h => h⟩
        · intro hop L a w5 γ hs hk hl ha keep know spec
          have h31 := know 31 (.int .i64 (n : Int)) (by kernel_rfl) rfl
          exact wpOp_value hop (wanted_none rfl) (v := .int .i64 (c : Int)) (by simp only [execOp, Act.eval, h31]; go_simp <;> simp only [hwr]) ⟨_, γ, rfl, hk.go (Kp.refl _) (fun _ _ => rfl) (fun j hj => by omega), (fun d hd => by injection hd with hd; subst hd; exact ⟨tab rfl, GG.none (fun j hj => by omega)⟩), fun _ _ _ h => h⟩
        · intro hop L a w5 γ hs hk hl ha keep know spec
          have h32 := know 32 (.int .i64 (c : Int)) (by kernel_rfl) rfl
          exact wpOp_value hop (wanted_none rfl) (v := .slice (some ⟨w5.heap.size, 0, none⟩) c c) (w' := w5.alloc (.cells C 3)) (by simp only [execOp, Act.eval, h32]; exact run_v (hmk.out w5)) ⟨_, upd γ w5.heap.size 1, rfl, hk.go (Kp.refl _).alloc (fun _ ho => upd_lt ho) (fun j hj => by omega), (fun d hd => by injection hd with hd; subst hd; exact ⟨tab_none rfl, gg_make hk (i := 1) (by decide) (AR.made HC)⟩), fun _ _ _ h => h.kp (Kp.refl _).alloc (fun _ ho => upd_lt ho)⟩
        · intro hop L a w5 γ hs hk hl ha keep know spec
          obtain ⟨b, e26, h1, h2, h3⟩ := (spec 33 (by kernel_rfl) 1 (by decide)).1 rfl
          exact wpOp_value hop (wanted_none rfl) (v := .slice (some ⟨w5.heap.size, 0, none⟩) 1 1) (w' := w5.alloc (.cells #[.slice (some ⟨b, 0, none⟩) c c] 22)) (by simp only [execOp, Act.eval, List.map_toArray, List.map_cons, List.map_nil, e26]; go_simp) ⟨_, γ, rfl, hk.go (Kp.refl _).alloc (fun _ _ => rfl) (fun j hj => by omega), (fun d hd => by injection hd with hd; subst hd; exact ⟨tab_none rfl, gg_build hk (by decide) h1 h2 h3⟩), fun _ _ _ h => h.kp (Kp.refl _).alloc (fun _ _ => rfl)⟩
        · intro hop L a w5 γ hs hk hl ha keep know spec
          have h30 := know 30 (X 1) (by kernel_rfl) rfl
          obtain ⟨b, b', e27, h0, hB', h1, h2, h3⟩ := (spec 34 (by kernel_rfl) 1 (by decide)).2.1 rfl
          obtain ⟨v', w', hr, hov, hgr, hat⟩ := tb_run 31 hk (i := 1) (by decide) (by simpa using hl) (HBN.out 1 (by decide)) h0
          have hq := tb_app hk (i := 1) (by decide) (by simpa using hl) (after_done ha (k := 8) (by kernel_rfl)) h2 h1 h3 hov hgr hat
          exact wpOp_value hop (wanted_none rfl) (v := v') (w' := w') (run_exec_app (.tmp 30) (.tmp 34) rfl h30 e27 hr) ⟨_, upd γ w5.heap.size 1, rfl, hq.1, (fun d hd => by injection hd with hd; subst hd; exact ⟨tab_none rfl, hq.2.1⟩), fun d u hd h => hq.2.2 d u (fun e => hd (by rw [e])) h⟩
        · intro hop L a w5 γ hs hk hl ha keep know spec
          have h6 := keep 6 (.pointer (some ⟨b0, 0, none⟩)) (by kernel_rfl) rfl
          exact wpOp_value hop (wanted_none rfl) (v := .pointer (some ⟨b0, 2, none⟩)) (by simp only [execOp, Act.eval, h6]; go_simp) ⟨_, γ, rfl, hk.go (Kp.refl _) (fun _ _ => rfl) (fun j hj => by omega), (fun d hd => by injection hd with hd; subst hd; exact ⟨tab rfl, GG.none (fun j hj => by omega)⟩), fun _ _ _ h => h⟩
        · intro hop L a w5 γ hs hk hl ha keep know spec
          have h36 := know 36 (.pointer (some ⟨b0, 2, none⟩)) (by kernel_rfl) rfl
          exact wpOp_value hop (wanted_none rfl) (v := X 2) (by simp only [execOp, Act.eval, h36]; exact run_v (tb_load hk (i := 2) (by decide) (by simpa using hl))) ⟨_, γ, rfl, hk.go (Kp.refl _) (fun _ _ => rfl) (fun j hj => by omega), (fun d hd => by injection hd with hd; subst hd; exact ⟨tab rfl, GG.none (fun j hj => by omega)⟩), fun _ _ _ h => h⟩
        · intro hop L a w5 γ hs hk hl ha keep know spec
          have h5 := keep 5 (.int .i64 (n : Int)) (by kernel_rfl) rfl
          exact wpOp_value hop (wanted_none rfl) (v := .int .i64 (n : Int)) (by simp only [execOp, Act.eval, h5]; rfl) ⟨_, γ, rfl, hk.go (Kp.refl _) (fun _ _ => rfl) (fun j hj => by omega), (fun d hd => by injection hd with hd; subst hd; exact ⟨tab rfl, GG.none (fun j hj => by omega)⟩), fun _ _ _ h => h⟩
        · intro hop L a w5 γ hs hk hl ha keep know spec
          have h38 := know 38 (.int .i64 (n : Int)) (by kernel_rfl) rfl
          exact wpOp_value hop (wanted_none rfl) (v := .int .i64 (c : Int)) (by simp only [execOp, Act.eval, h38]; go_simp <;> simp only [hwr]) ⟨_, γ, rfl, hk.go (Kp.refl _) (fun _ _ => rfl) (fun j hj => by omega), (fun d hd => by injection hd with hd; subst hd; exact ⟨tab rfl, GG.none (fun j hj => by omega)⟩), fun _ _ _ h => h⟩
        · intro hop L a w5 γ hs hk hl ha keep know spec
          have h39 := know 39 (.int .i64 (c : Int)) (by kernel_rfl) rfl
          exact wpOp_value hop (wanted_none rfl) (v := .slice (some ⟨w5.heap.size, 0, none⟩) c c) (w' := w5.alloc (.cells C 3)) (by simp only [execOp, Act.eval, h39]; exact run_v (hmk.out w5)) ⟨_, upd γ w5.heap.size 2, rfl, hk.go (Kp.refl _).alloc (fun _ ho => upd_lt ho) (fun j hj => by omega), (fun d hd => by injection hd with hd; subst hd; exact ⟨tab_none rfl, gg_make hk (i := 2) (by decide) (AR.made HC)⟩), fun _ _ _ h => h.kp (Kp.refl _).alloc (fun _ ho => upd_lt ho)⟩
        · intro hop L a w5 γ hs hk hl ha keep know spec
          obtain ⟨b, e26, h1, h2, h3⟩ := (spec 40 (by kernel_rfl) 2 (by decide)).1 rfl
          exact wpOp_value hop (wanted_none rfl) (v := .slice (some ⟨w5.heap.size, 0, none⟩) 1 1) (w' := w5.alloc (.cells #[.slice (some ⟨b, 0, none⟩) c c] 22)) (by simp only [execOp, Act.eval, List.map_toArray, List.map_cons, List.map_nil, e26]; go_simp) ⟨_, γ, rfl, hk.go (Kp.refl _).alloc (fun _ _ => rfl) (fun j hj => by omega), (fun d hd => by injection hd with hd; subst hd; exact ⟨tab_none rfl, gg_build hk (by decide) h1 h2 h3⟩), fun _ _ _ h => h.kp (Kp.refl _).alloc (fun _ _ => rfl)⟩
        · intro hop L a w5 γ hs hk hl ha keep know spec
          have h37 := know 37 (X 2) (by kernel_rfl) rfl
          obtain ⟨b, b', e27, h0, hB', h1, h2, h3⟩ := (spec 41 (by kernel_rfl) 2 (by decide)).2.1 rfl
          obtain ⟨v', w', hr, hov, hgr, hat⟩ := tb_run 31 hk (i := 2) (by decide) (by simpa using hl) (HBN.out 2 (by decide)) h0
          have hq := tb_app hk (i := 2) (by decide) (by simpa using hl) (after_done ha (k := 15) (by kernel_rfl)) h2 h1 h3 hov hgr hat
          exact wpOp_value hop (wanted_none rfl) (v := v') (w' := w') (run_exec_app (.tmp 37) (.tmp 41) rfl h37 e27 hr) ⟨_, upd γ w5.heap.size 2, rfl, hq.1, (fun d hd => by injection hd with hd; subst hd; exact ⟨tab_none rfl, hq.2.1⟩), fun d u hd h => hq.2.2 d u (fun e => hd (by rw [e])) h⟩
        · intro hop L a w5 γ hs hk hl ha keep know spec
          have h6 := keep 6 (.pointer (some ⟨b0, 0, none⟩)) (by kernel_rfl) rfl
          exact wpOp_value hop (wanted_none rfl) (v := .pointer (some ⟨b0, 0, none⟩)) (by simp only [execOp, Act.eval, h6]; go_simp) ⟨_, γ, rfl, hk.go (Kp.refl _) (fun _ _ => rfl) (fun j hj => by omega), (fun d hd => by injection hd with hd; subst hd; exact ⟨tab rfl, GG.none (fun j hj => by omega)⟩), fun _ _ _ h => h⟩
        · intro hop L a w5 γ hs hk hl ha keep know spec
          have h43 := know 43 (.pointer (some ⟨b0, 0, none⟩)) (by kernel_rfl) rfl
          have hG := spec 28 (by kernel_rfl)
          have hq := tb_store hk (i := 0) (by decide) (after_done ha (k := 6) (by kernel_rfl)) hG
          obtain ⟨v, hv⟩ : ∃ v, v = a.tmps.getD 28 undef := ⟨_, rfl⟩
          rw [← hv] at hG hq
          exact wpOp_skip hop (wanted_none rfl) (w' := w5.setCell ⟨b0, 0, none⟩ v) (by simp only [execOp, Act.eval, h43, ← hv]; exact run_u (tb_storeRun hk (i := 0) (by decide) hG)) ⟨_, γ, rfl, hq.1, (fun d hd => by cases hd), fun d u _ h => hq.2 d u h⟩
        · intro hop L a w5 γ hs hk hl ha keep know spec
          have h6 := keep 6 (.pointer (some ⟨b0, 0, none⟩)) (by kernel_rfl) rfl
          exact wpOp_value hop (wanted_none rfl) (v := .pointer (some ⟨b0, 1, none⟩)) (by simp only [execOp, Act.eval, h6]; go_simp) ⟨_, γ, rfl, hk.go (Kp.refl _) (fun _ _ => rfl) (fun j hj => by omega), (fun d hd => by injection hd with hd; subst hd; exact ⟨tab rfl, GG.none (fun j hj => by omega)⟩), fun _ _ _ h => h⟩
        · intro hop L a w5 γ hs hk hl ha keep know spec
          have h44 := know 44 (.pointer (some ⟨b0, 1, none⟩)) (by kernel_rfl) rfl
          have hG := spec 35 (by kernel_rfl)
          have hq := tb_store hk (i := 1) (by decide) (after_done ha (k := 13) (by kernel_rfl)) hG
          obtain ⟨v, hv⟩ : ∃ v, v = a.tmps.getD 35 undef := ⟨_, rfl⟩
          rw [← hv] at hG hq
          exact wpOp_skip hop (wanted_none rfl) (w' := w5.setCell ⟨b0, 1, none⟩ v) (by simp only [execOp, Act.eval, h44, ← hv]; exact run_u (tb_storeRun hk (i := 1) (by decide) hG)) ⟨_, γ, rfl, hq.1, (fun d hd => by cases hd), fun d u _ h => hq.2 d u h⟩
        · intro hop L a w5 γ hs hk hl ha keep know spec
          have h6 := keep 6 (.pointer (some ⟨b0, 0, none⟩)) (by kernel_rfl) rfl
          exact wpOp_value hop (wanted_none rfl) (v := .pointer (some ⟨b0, 2, none⟩)) (by simp only [execOp, Act.eval, h6]; go_simp) ⟨_, γ, rfl, hk.go (Kp.refl _) (fun _ _ => rfl) (fun j hj => by omega), (fun d hd => by injection hd with hd; subst hd; exact ⟨tab rfl, GG.none (fun j hj => by omega)⟩), fun _ _ _ h => h⟩
        · intro hop L a w5 γ hs hk hl ha keep know spec
          have h45 := know 45 (.pointer (some ⟨b0, 2, none⟩)) (by kernel_rfl) rfl
          have hG := spec 42 (by kernel_rfl)
          have hq := tb_store hk (i := 2) (by decide) (after_done ha (k := 20) (by kernel_rfl)) hG
          obtain ⟨v, hv⟩ : ∃ v, v = a.tmps.getD 42 undef := ⟨_, rfl⟩
          rw [← hv] at hG hq
          exact wpOp_skip hop (wanted_none rfl) (w' := w5.setCell ⟨b0, 2, none⟩ v) (by simp only [execOp, Act.eval, h45, ← hv]; exact run_u (tb_storeRun hk (i := 2) (by decide) hG)) ⟨_, γ, rfl, hq.1, (fun d hd => by cases hd), fun d u _ h => hq.2 d u h⟩
      · intro a' w5 γ' e1 e2 hk keep know spec
        obtain ⟨tm, df⟩ := a'
        obtain ⟨f, hf⟩ := frame_puts (D := [22, 23, 24, 25, 26, 27, 28, 29, 30, 31, 32, 33, 34, 35, 36, 37, 38, 39, 40, 41, 42, 43, 44, 45]) e2 keep
        have e1' : df = [] := e1
        clear keep know spec e1 e2
        simp only [List.foldl_cons, List.foldl_nil] at hf
        subst e1'
        have HE := hide (tb_end hk (fun i hi => (HXX.out i hi).1))
        clear hk
        rw [hf]
        clear hf
        go_wp2
        go_roundw
        case rel =>
          obtain ⟨Y, BS', q1, q2, q3, q4⟩ := HE.out
          exact ⟨k + 1, Y, BS', γ', by omega, by go_num, q1, q2, q3, q4⟩
        case measure => simp [intOf]; omega
    · obtain rfl : k = c := by omega
      have hc0 : 0 < k := by have := HCC.out; omega
      obtain ⟨O, P, R, hT⟩ := tb_of hc0 hkp hrb (Nat.le_refl _) (by have := HBT.out; omega) hbt hX
      have HTB := hide hT
      obtain ⟨h, hh⟩ : ∃ h, h = gD hits := ⟨_, rfl⟩
      obtain ⟨g, hgg⟩ : ∃ g, g = gD gaps := ⟨_, rfl⟩
      have HH := hide hh
      have HG := hide hgg
      have HB1 : Hid (∀ k, 0 ≤ h k ∧ h k ≤ 1000) := hide (by rw [hh]; exact HB1.out)
      have HB2 : Hid (∀ k, 0 ≤ g k ∧ g k ≤ 1000) := hide (by rw [hgg]; exact HB2.out)
      clear hX hrb hbt hkp hlt hk hT hh hgg
      obtain ⟨c, rfl⟩ : ∃ x, x = k := ⟨_, rfl⟩
      obtain ⟨wa, rfl⟩ : ∃ x, x = wr := ⟨_, rfl⟩
      go_wp2
      go_loopw [49] (B2Rel w b0 w.heap.size c O P R g) (fun k _ => c - (intOf k).toNat)
      case atStart => exact ⟨0, _, by omega, rfl, HTB.out, fun j hj => by omega, fun _ => rfl⟩
      case round =>
        obtain ⟨k, M, hk, rfl, hT, hM1, hM0⟩ := hrel
        by_cases hlt : k < c
        · have HT := hide hT
          obtain ⟨_, t1, _⟩ := hT.top
          have r1 := hT.row (i := 1) (by decide) hlt
          have q1 := hT.cell (i := 1) (by decide) hlt hlt
          have f1 := hT.frozen (i := 1) (by decide) hlt k
          have hgl := HGL.out
          obtain ⟨bb, oo, e, _, g1⟩ := (HHU.out.kp hT.1).int (k := k) (by omega)
          cases e
          rw [gD_at (by omega), ← HG.out] at g1
          obtain ⟨y, hy⟩ : ∃ y, y = g k := ⟨_, rfl⟩
          obtain ⟨y0, hy0⟩ : ∃ y0, y0 = M 1 k k := ⟨_, rfl⟩
          rw [← hy] at g1
          rw [← hy0] at q1
          have HM1 := hide hM1
          have HM0 := hide hM0
          have HY := hide hy
          clear hT hM1 hM0 hy hy0 hgl
          go_wp2
          go_still_tail 11, (by kernel_rfl)
          change wpList _ _ _ _ _ wr.drew
          go_wp2
          go_roundw
          case rel => 
            refine ⟨k + 1, Mset M 1 k k y, by omega, by go_num, HT.out.drew.set (by decide) hlt y, fun j hj => ?_, fun j => ?_⟩
            · by_cases e : j = k
              · subst e; rw [Mset_at]; exact HY.out
              · rw [Mset_ne (by omega)]; exact HM1.out j (by omega)
            · rw [Mset_ne (by omega)]; exact HM0.out j
          case measure => simp [intOf]; omega
        · obtain rfl : k = c := by omega
          have HT := hide hT
          have HD : Hid (Dn h g n 1 0 M) := hide (Dn.start (fun j _ => hM0 j) (fun j hj => hM1 j (by have := HCC.out; omega)))
          obtain ⟨wb, rfl⟩ : ∃ x, x = wr := ⟨_, rfl⟩
          clear hT hM1 hM0
          go_wp2
          go_loopw [8] (B3Rel w b0 w.heap.size k O P R h g n) (fun k _ => n + 1 - (intOf k).toNat)
          case atStart => exact ⟨1, M, by omega, by omega, rfl, HT.out, HD.out⟩
          case round =>
            obtain ⟨L, M, hL1, hLc, rfl, hT, hD⟩ := hrel
            have HT := hide hT
            have HD := hide hD
            obtain ⟨wc, rfl⟩ : ∃ x, x = wr := ⟨_, rfl⟩
            have hcn := HCC.out
            clear hT hD
            by_cases hLn : n < L
            · have d1 : decide (L ≤ n) = false := decide_eq_false (by omega)
              have HPF : Hid (∀ i j, i ≤ j → j ≤ n → M 0 i j = bc h g i j ∧ (i < j → M 2 i j = bt h g i j)) := hide (fun i j h1 h2 => by
                have := HD.out i j h1 h2 (.inl (by omega))
                exact ⟨this.1, this.2.2⟩)
              have hT := HT.out
              obtain ⟨t1, t2, t3⟩ := hT.top
              have hrb := hT.2.2.1
              have z0 := hrb.cell 0
              have z1 := hrb.cell 1
              have z2 := hrb.cell 2
              have f0 := hrb.frozen 0
              have f1 := hrb.frozen 1
              have f2 := hrb.frozen 2
              simp only [List.getElem?_cons_zero, List.getElem?_cons_succ] at z0 z1 z2
              clear hLn hcn hT hrb
              go_wp2
              rw [← HH.out, ← HG.out]
              exact filled_end HT.out HCC.out hcl HPF.out rfl rfl
            · have d1 : decide (L ≤ n) = true := decide_eq_true (by omega)
              have HLN := hide hLn
              have HL1 := hide hL1
              clear hLn hcn
              go_wp2
              go_loopw [9] (B4Rel w b0 w.heap.size k O P R h g n L) (fun i _ => n + 1 - (intOf i).toNat)
              case atStart => exact ⟨0, M, by have := HLN.out; have := HCC.out; omega, rfl, HT.out, HD.out⟩
              case round =>
                obtain ⟨i, M, hiL, rfl, hT, hD⟩ := hrel
                have hcn := HCC.out
                have hL0 := HL1.out
                obtain ⟨j, hj⟩ : ∃ j, j = i + L := ⟨_, rfl⟩
                have s1 : IntKind.i64.wrap ((i : Int) + (L : Int)) = (j : Int) := by rw [IntWalk.i64_in _ (by omega), hj]; simp
                by_cases hjn : j ≤ n
                · have d2 : decide (j ≤ n) = true := decide_eq_true (by omega)
                  have hB1 := HB1.out
                  have hB2 := HB2.out
                  have hh0 : ∀ k, 0 ≤ h k := fun k => (hB1 k).1
                  have hg0 : ∀ k, 0 ≤ g k := fun k => (hB2 k).1
                  have hh1 : ∀ k, h k ≤ 1000 := fun k => (hB1 k).2
                  have hg1 : ∀ k, g k ≤ 1000 := fun k => (hB2 k).2
                  have hic : i < k := by omega
                  have hjc : j < k := by omega
                  obtain ⟨j1, hj1⟩ : ∃ j1, j1 = j - 1 := ⟨_, rfl⟩
                  obtain ⟨i1, hi1⟩ : ∃ i1, i1 = i + 1 := ⟨_, rfl⟩
                  have hj1c : j1 < k := by omega
                  have hi1c : i1 < k := by omega
                  have hj1n : j1 < n := by omega
                  have s2 : IntKind.i64.wrap ((j : Int) - 1) = (j1 : Int) := by rw [IntWalk.i64_in _ (by omega)]; omega
                  have s3 : IntKind.i64.wrap ((i : Int) + 1) = (i1 : Int) := by rw [IntWalk.i64_in _ (by omega)]; omega
                  obtain ⟨_, t1, t2⟩ := hT.top
                  have r1 := hT.row (i := 1) (by decide) hic
                  have q1 := hT.cell (i := 1) (by decide) hic hj1c
                  have q2 := hT.cell (i := 1) (by decide) hic hjc
                  have f1 := hT.frozen (i := 1) (by decide) hic j
                  obtain ⟨_, _, e, _, g2⟩ := (HHU.out.kp hT.1).int (k := j) (by have := HGL.out; omega)
                  cases e
                  obtain ⟨_, _, e, _, g3⟩ := (HHR.out.kp hT.1).int (k := j1) (by have := HN.out; omega)
                  cases e
                  rw [gD_at (by have := HGL.out; omega), ← HG.out] at g2
                  rw [gD_at (by have := HN.out; omega), ← HH.out] at g3
                  have hw1 : M 1 i j1 = wgt h g i j1 := (hD i j1 (by omega) (by omega) (.inl (by omega))).2.1
                  have hw2 : wgt h g i (j1 + 1) = wgt h g i j1 + h j1 + g (j1 + 1) := wgt_succ i j1
                  rw [show j1 + 1 = j from by omega] at hw2
                  have hw3 := wgt_le hh1 hg1 (i := i) (j := j1) (by omega) (by omega)
                  have hw4 := wgt_pos hh0 hg0 (i := i) (j := j1) (by omega)
                  rw [hw1] at q1
                  obtain ⟨a, ha⟩ : ∃ a, a = wgt h g i j1 := ⟨_, rfl⟩
                  obtain ⟨b, hb⟩ : ∃ b, b = h j1 := ⟨_, rfl⟩
                  obtain ⟨d, hd⟩ : ∃ d, d = g j := ⟨_, rfl⟩
                  obtain ⟨x, hx⟩ : ∃ x, x = wgt h g i j := ⟨_, rfl⟩
                  obtain ⟨ab, hab⟩ : ∃ ab, ab = a + b := ⟨_, rfl⟩
                  have hb' := hB1 j1
                  have hd' := hB2 j
                  rw [← hb] at g3 hb' hw2
                  rw [← hd] at g2 hd' hw2
                  rw [← ha] at q1 hw2 hw3 hw4
                  rw [← hx] at hw2
                  have s4 : IntKind.i64.wrap (a + b) = ab := by rw [IntWalk.i64_in _ (by omega), hab]
                  have s5 : IntKind.i64.wrap (ab + d) = x := by rw [IntWalk.i64_in _ (by omega)]; omega
                  have hxb : 0 ≤ x ∧ x ≤ 100000 := by omega
                  obtain ⟨y2, hy2⟩ : ∃ y2, y2 = M 1 i j := ⟨_, rfl⟩
                  rw [← hy2] at q2
                  obtain ⟨M1, hM1⟩ : ∃ M1, M1 = Mset M 1 i j x := ⟨_, rfl⟩
                  have HT1 : Hid (Tb w b0 w.heap.size k O P R M1 ((wr.setCell ⟨R 1 i, j, none⟩ (.int .i64 x)).drew)) := hide (by rw [hM1]; exact (hT.set (by decide) hic x).drew)
                  have HME : Hid (∀ t r q, ¬ (t = 1 ∧ r = i ∧ q = j) → M1 t r q = M t r q) := hide (fun t r q hne => by rw [hM1]; exact Mset_ne hne)
                  have HM1x : Hid (M1 1 i j = x) := hide (by rw [hM1]; exact Mset_at)
                  have HD1 : Hid (Dn h g n L i M) := hide hD
                  have HX := hide hx
                  have HXB := hide hxb
                  have HJ := hide hj
                  have HJ1 := hide hj1
                  have HI1 := hide hi1
                  have HJN := hide hjn
                  have HIC := hide hic
                  have HJC := hide hjc
                  have HHH := hide (And.intro hh0 (And.intro hg0 (And.intro hh1 hg1)))
                  have HF : Hid (∀ r, i ≤ r → r < j → M 0 i r = bc h g i r ∧ M 0 (r + 1) j = bc h g (r + 1) j ∧ 0 ≤ bc h g i r ∧ bc h g i r ≤ 820000 ∧ 0 ≤ bc h g (r + 1) j ∧ bc h g (r + 1) j ≤ 820000) := hide (fun r h1 h2 => by
                    have := bc_le hh0 hg0 hh1 hg1 20 i r (by omega) (by omega) (by omega)
                    have := bc_le hh0 hg0 hh1 hg1 20 (r + 1) j (by omega) (by omega) (by omega)
                    exact ⟨(hD i r h1 (by omega) (.inl (by omega))).1, (hD (r + 1) j (by omega) (by omega) (.inl (by omega))).1, bc_pos hh0 hg0 _ i r (Nat.le_refl _), by omega, bc_pos hh0 hg0 _ (r + 1) j (Nat.le_refl _), by omega⟩)
                  have HBB : Hid (i < j ∧ ∃ q, i ≤ q ∧ q < j ∧ bt h g i j = (q : Int)) := hide ⟨by omega, by
                    obtain ⟨q, h1, h2, h3, _⟩ := bt_spec hh0 hg0 (i := i) (j := j) (by omega)
                    exact ⟨q, h1, h2, h3⟩⟩
                  have HL4 : Hid (1 < L → M 2 i j1 = bt h g i j1 ∧ M 2 i1 j = bt h g i1 j ∧ ∃ lo hi : Nat, bt h g i j1 = (lo : Int) ∧ bt h g i1 j = (hi : Int) ∧ i ≤ lo ∧ hi < j ∧ (lo : Int) ≤ bt h g i j ∧ bt h g i j ≤ (hi : Int)) := hide (fun h1 => by
                    have e1 := (hD i j1 (by omega) (by omega) (.inl (by omega))).2.2 (by omega)
                    have e2 := (hD i1 j (by omega) (by omega) (.inl (by omega))).2.2 (by omega)
                    obtain ⟨lo, a1, a2, a3, _⟩ := bt_spec hh0 hg0 (i := i) (j := j1) (by omega)
                    obtain ⟨hi, b1, b2, b3, _⟩ := bt_spec hh0 hg0 (i := i1) (j := j) (by omega)
                    have hbt := bt_between hh0 hg0 (i := i) (j := j) (by omega)
                    rw [← hj1, ← hi1] at hbt
                    exact ⟨e1, e2, lo, hi, a3, b3, a1, b2, by rw [← a3]; exact hbt.1, by rw [← b3]; exact hbt.2⟩)
                  have HTT := hide hT
                  clear hT hD hB1 hB2 hh0 hg0 hh1 hg1 hw1 hw2 hw3 hw4 ha hb hd hx hab hb' hd' hxb hy2 hM1 hj hj1 hi1 hjn hcn
                  by_cases hL2 : 1 < L
                  · have d3 : decide ((1 : Int) < (L : Int)) = true := decide_eq_true (by omega)
                    obtain ⟨e1, e2, lo, hi, e3, e4, e5, e6, e7, e8⟩ := HL4.out hL2
                    have HLH : Hid (i ≤ lo ∧ (lo : Int) ≤ bt h g i j ∧ bt h g i j ≤ (hi : Int) ∧ hi < j) := hide ⟨e5, e7, e8, e6⟩
                    have HE1 : Hid (M1 2 i j1 = (lo : Int)) := hide (by rw [HME.out _ _ _ (by omega), e1, e3])
                    have HE2 : Hid (M1 2 i1 j = (hi : Int)) := hide (by rw [HME.out _ _ _ (by omega), e2, e4])
                    clear e1 e2 e3 e4 e5 e6 e7 e8 hL2
                    go_wp2
                    go_still_tail 27, (by kernel_rfl)
                    change wpList _ _ _ _ _ wr.drew
                    go_wp2
                    obtain ⟨W1, hW1⟩ : ∃ W1, W1 = (wr.setCell ⟨R 1 i, j, none⟩ (.int .i64 x)).drew := ⟨_, rfl⟩
                    rw [← hW1]
                    have hT1 : Tb w b0 w.heap.size k O P R M1 W1 := by rw [hW1]; exact HT1.out
                    obtain ⟨_, _, t3⟩ := hT1.top
                    have r3 := hT1.row (i := 2) (by decide) hic
                    have r4 := hT1.row (i := 2) (by decide) hi1c
                    have q3 := hT1.cell (i := 2) (by decide) hic hj1c
                    have q4 := hT1.cell (i := 2) (by decide) hi1c hjc
                    rw [HE1.out] at q3
                    rw [HE2.out] at q4
                    have HTs := hide hT1
                    clear hT1 hW1
                    go_quiet (fail)
                    go_wp2
                    go_loopw [13, 14] (B5Rel w b0 w.heap.size k O P R (fun r => bc h g i r + bc h g (r + 1) j) lo hi i j M1) (fun _ rv _ => hi + 1 - (intOf rv).toNat)
                    case atStart => exact ⟨0, by have := HLH.out; omega, rfl, rfl, by rw [show (scanN (fun r => bc h g i r + bc h g (r + 1) j) (M1 2 i j) lo 0).2 = M1 2 i j from rfl, Mset_same]; first | exact HTs.out | exact HTs.out.drew | exact HTs.out.drewN _⟩
                    case round =>
                      obtain ⟨m, hm, rfl, rfl, hT⟩ := hrel
                      have HSN : Hid (scanN (fun r => bc h g i r + bc h g (r + 1) j) (M1 2 i j) lo (m + 1) = if (scanN (fun r => bc h g i r + bc h g (r + 1) j) (M1 2 i j) lo m).1 < 0 ∨ bc h g i (lo + m) + bc h g (lo + m + 1) j < (scanN (fun r => bc h g i r + bc h g (r + 1) j) (M1 2 i j) lo m).1 then (bc h g i (lo + m) + bc h g (lo + m + 1) j, ((lo + m : Nat) : Int)) else scanN (fun r => bc h g i r + bc h g (r + 1) j) (M1 2 i j) lo m) := hide rfl
                      obtain ⟨S, hS⟩ : ∃ S, S = scanN (fun r => bc h g i r + bc h g (r + 1) j) (M1 2 i j) lo m := ⟨_, rfl⟩
                      rw [← hS] at hT HSN ⊢
                      obtain ⟨bv, tv⟩ := S
                      simp only at hT HSN
                      obtain ⟨r, hr⟩ : ∃ r, r = lo + m := ⟨_, rfl⟩
                      rw [← hr] at HSN ⊢
                      obtain ⟨l1, l2, l3, l4⟩ := HLH.out
                      by_cases hrh : r ≤ hi
                      · have d4 : decide (r ≤ hi) = true := decide_eq_true hrh
                        obtain ⟨r1, hr1⟩ : ∃ r1, r1 = r + 1 := ⟨_, rfl⟩
                        obtain ⟨v1, v2, v3, v4, v5, v6⟩ := HF.out r (by omega) (by omega)
                        have hrc : r < k := by omega
                        have hr1c : r1 < k := by omega
                        have s6 : IntKind.i64.wrap ((r : Int) + 1) = (r1 : Int) := by rw [IntWalk.i64_in _ (by omega)]; omega
                        obtain ⟨t5, t6, t7⟩ := hT.top
                        have r5 := hT.row (i := 0) (by decide) hic
                        have r6 := hT.row (i := 0) (by decide) hr1c
                        have r7 := hT.row (i := 2) (by decide) hic
                        have q5 := hT.cell (i := 0) (by decide) hic hrc
                        have q6 := hT.cell (i := 0) (by decide) hr1c hjc
                        have q7 := hT.cell (i := 2) (by decide) hic hjc
                        have f7 := hT.frozen (i := 2) (by decide) hic j
                        rw [Mset_ne (by omega), HME.out _ _ _ (by omega), v1] at q5
                        rw [Mset_ne (by omega), HME.out _ _ _ (by omega), hr1, v2] at q6
                        rw [← hr1] at v5 v6 q6 HSN
                        rw [Mset_at] at q7
                        obtain ⟨fa, hfa⟩ : ∃ fa, fa = bc h g i r := ⟨_, rfl⟩
                        obtain ⟨fb, hfb⟩ : ∃ fb, fb = bc h g r1 j := ⟨_, rfl⟩
                        obtain ⟨fc, hfc⟩ : ∃ fc, fc = fa + fb := ⟨_, rfl⟩
                        rw [← hfa] at q5 v3 v4 HSN
                        rw [← hfb] at q6 v5 v6 HSN
                        rw [← hfc] at HSN
                        have s7 : IntKind.i64.wrap (fa + fb) = fc := by rw [IntWalk.i64_in _ (by omega), hfc]
                        have HT := hide hT
                        have HRR := hide hr
                        have HR1 := hide hr1
                        have HRH := hide hrh
                        clear hT hr hr1 hrh hm v1 v2 v3 v4 v5 v6 hfa hfb hfc hS l1 l2 l3 l4
                        by_cases hbv : bv < 0
                        · have d5 : decide (bv < 0) = true := decide_eq_true hbv
                          have HQ := hide (HSN.out.trans (if_pos (.inl hbv)))
                          clear hbv HSN
                          go_wp2_with fail
                          go_quiet (fail)
                          go_wp2
                          generalize hW2 : wr.drewN nq = W2
                          have hT2 : Tb w b0 w.heap.size k O P R (Mset M1 2 i j tv) W2 := by rw [← hW2]; exact HT.out.drewN _
                          clear t5 t6 t7 r5 r6 r7 q5 q6 q7 f7
                          obtain ⟨_, _, t7⟩ := hT2.top
                          have r7 := hT2.row (i := 2) (by decide) hic
                          have q7 := hT2.cell (i := 2) (by decide) hic hjc
                          rw [Mset_at] at q7
                          have f7 := hT2.frozen (i := 2) (by decide) hic j
                          have HT2 := hide hT2
                          clear hT2 hW2
                          go_still_tail 10, (by kernel_rfl)
                          change wpList _ _ _ _ _ W2.drew
                          go_wp2
                          go_roundw
                          case rel => exact ⟨m + 1, by have := HRR.out; have := HRH.out; omega, by have := HRR.out; have := HR1.out; congr 2; omega, by rw [HQ.out], by rw [HQ.out]; have h9 := (HT2.out.set (i := 2) (r := i) (q := j) (by decide) hic (r : Int)).drew; rw [Mset_twice] at h9; exact h9⟩
                          case measure => have := HRR.out; have := HRH.out; have := HR1.out; simp [intOf]; omega
                        · have d5 : decide (bv < 0) = false := decide_eq_false hbv
                          by_cases hfv : fc < bv
                          · have d6 : decide (fc < bv) = true := decide_eq_true hfv
                            have HQ := hide (HSN.out.trans (if_pos (.inr hfv)))
                            clear hbv hfv HSN
                            go_wp2_with fail
                            go_quiet (fail)
                            go_wp2
                            generalize hW2 : wr.drewN nq = W2
                            have hT2 : Tb w b0 w.heap.size k O P R (Mset M1 2 i j tv) W2 := by rw [← hW2]; exact HT.out.drewN _
                            clear t5 t6 t7 r5 r6 r7 q5 q6 q7 f7
                            obtain ⟨_, _, t7⟩ := hT2.top
                            have r7 := hT2.row (i := 2) (by decide) hic
                            have q7 := hT2.cell (i := 2) (by decide) hic hjc
                            rw [Mset_at] at q7
                            have f7 := hT2.frozen (i := 2) (by decide) hic j
                            have HT2 := hide hT2
                            clear hT2 hW2
                            go_still_tail 10, (by kernel_rfl)
                            change wpList _ _ _ _ _ W2.drew
                            go_wp2
                            go_roundw
                            case rel => exact ⟨m + 1, by have := HRR.out; have := HRH.out; omega, by have := HRR.out; have := HR1.out; congr 2; omega, by rw [HQ.out], by rw [HQ.out]; have h9 := (HT2.out.set (i := 2) (r := i) (q := j) (by decide) hic (r : Int)).drew; rw [Mset_twice] at h9; exact h9⟩
                            case measure => have := HRR.out; have := HRH.out; have := HR1.out; simp [intOf]; omega
                          · have d6 : decide (fc < bv) = false := decide_eq_false hfv
                            have HQ := hide (HSN.out.trans (if_neg (fun h => h.elim hbv hfv)))
                            clear hbv hfv HSN
                            go_wp2_with fail
                            go_quiet (fail)
                            go_wp2
                            go_roundw
                            case rel => exact ⟨m + 1, by have := HRR.out; have := HRH.out; omega, by have := HRR.out; have := HR1.out; congr 2; omega, by rw [HQ.out], by rw [HQ.out]; first | exact HT.out | exact HT.out.drew | exact HT.out.drewN _⟩
                            case measure => have := HRR.out; have := HRH.out; have := HR1.out; simp [intOf]; omega
                      · have d4 : decide (r ≤ hi) = false := decide_eq_false hrh
                        obtain ⟨hh0, hg0, hh1, hg1⟩ := HHH.out
                        have hij := HBB.out.1
                        have hsb := scan_between hh0 hg0 hij (M1 2 i j) l1 l2 l3 l4
                        rw [show hi + 1 - lo = m from by omega, ← hS, ← HX.out] at hsb
                        simp only at hsb
                        obtain ⟨y, hy⟩ : ∃ y, y = bc h g i j := ⟨_, rfl⟩
                        have hy1 := bc_le hh0 hg0 hh1 hg1 20 i j (by omega) (by omega) (by omega)
                        have hy2 := bc_pos hh0 hg0 _ i j (Nat.le_refl _)
                        rw [← hy] at hsb hy1 hy2
                        have s8 : IntKind.i64.wrap (bv + x) = y := by rw [IntWalk.i64_in _ (by omega)]; exact hsb.1
                        obtain ⟨t5, t6, t7⟩ := hT.top
                        have r5 := hT.row (i := 0) (by decide) hic
                        have r6 := hT.row (i := 1) (by decide) hic
                        have q5 := hT.cell (i := 0) (by decide) hic hjc
                        have q6 := hT.cell (i := 1) (by decide) hic hjc
                        have f5 := hT.frozen (i := 0) (by decide) hic j
                        rw [Mset_ne (by omega), HM1x.out] at q6
                        obtain ⟨y5, hy5⟩ : ∃ y5, y5 = Mset M1 2 i j tv 0 i j := ⟨_, rfl⟩
                        rw [← hy5] at q5
                        have HT := hide hT
                        have HY := hide hy
                        have HTV := hide hsb.2
                        clear hT hr hrh hm hS l1 l2 l3 l4 hh0 hg0 hh1 hg1 hij hsb hy1 hy2 hy5 hy
                        go_wp2
                        go_still_tail 17, (by kernel_rfl)
                        change wpList _ _ _ _ _ wr.drew
                        go_wp2
                        go_roundw
                        case rel =>
                          refine ⟨i1, Mset (Mset M1 2 i j tv) 0 i j y, ?_, rfl, HT.out.drew.set (by decide) hic y, ?_⟩
                          · have := HI1.out; have := HJN.out; have := HJ.out; have := HCC.out; omega
                          · rw [HI1.out]
                            refine HD1.out.step HJ.out HL1.out HJN.out ?_ ?_ ?_ fun t r q hne => ?_
                            · rw [Mset_at]; exact HY.out
                            · rw [Mset_ne (by omega), Mset_ne (by omega), HM1x.out]; exact HX.out
                            · rw [Mset_ne (by omega), Mset_at]; exact HTV.out
                            · rw [Mset_ne (fun h => hne ⟨h.2.1, h.2.2⟩), Mset_ne (fun h => hne ⟨h.2.1, h.2.2⟩), HME.out _ _ _ (fun h => hne ⟨h.2.1, h.2.2⟩)]
                        case measure => have := HI1.out; have := HJN.out; have := HJ.out; simp [intOf]; omega
                  · have d3 : decide ((1 : Int) < (L : Int)) = false := decide_eq_false (by omega)
                    have HLH : Hid (i ≤ i ∧ (i : Int) ≤ bt h g i j ∧ bt h g i j ≤ (j1 : Int) ∧ j1 < j) := hide (by
                      obtain ⟨e1, q, e2, e3, e4⟩ := HBB.out
                      have := HJ.out
                      have := HJ1.out
                      rw [e4]; omega)
                    have HTs := hide HT1.out
                    clear hL2
                    go_wp2
                    go_still_tail 27, (by kernel_rfl)
                    change wpList _ _ _ _ _ wr.drew
                    go_wp2
                    go_loopw [13, 14] (B5Rel w b0 w.heap.size k O P R (fun r => bc h g i r + bc h g (r + 1) j) i j1 i j M1) (fun _ rv _ => j1 + 1 - (intOf rv).toNat)
                    case atStart => exact ⟨0, by have := HLH.out; omega, rfl, rfl, by rw [show (scanN (fun r => bc h g i r + bc h g (r + 1) j) (M1 2 i j) i 0).2 = M1 2 i j from rfl, Mset_same]; first | exact HTs.out | exact HTs.out.drew | exact HTs.out.drewN _⟩
                    case round =>
                      obtain ⟨m, hm, rfl, rfl, hT⟩ := hrel
                      have HSN : Hid (scanN (fun r => bc h g i r + bc h g (r + 1) j) (M1 2 i j) i (m + 1) = if (scanN (fun r => bc h g i r + bc h g (r + 1) j) (M1 2 i j) i m).1 < 0 ∨ bc h g i (i + m) + bc h g (i + m + 1) j < (scanN (fun r => bc h g i r + bc h g (r + 1) j) (M1 2 i j) i m).1 then (bc h g i (i + m) + bc h g (i + m + 1) j, ((i + m : Nat) : Int)) else scanN (fun r => bc h g i r + bc h g (r + 1) j) (M1 2 i j) i m) := hide rfl
                      obtain ⟨S, hS⟩ : ∃ S, S = scanN (fun r => bc h g i r + bc h g (r + 1) j) (M1 2 i j) i m := ⟨_, rfl⟩
                      rw [← hS] at hT HSN ⊢
                      obtain ⟨bv, tv⟩ := S
                      simp only at hT HSN
                      obtain ⟨r, hr⟩ : ∃ r, r = i + m := ⟨_, rfl⟩
                      rw [← hr] at HSN ⊢
                      obtain ⟨l1, l2, l3, l4⟩ := HLH.out
                      by_cases hrh : r ≤ j1
                      · have d4 : decide (r ≤ j1) = true := decide_eq_true hrh
                        obtain ⟨r1, hr1⟩ : ∃ r1, r1 = r + 1 := ⟨_, rfl⟩
                        obtain ⟨v1, v2, v3, v4, v5, v6⟩ := HF.out r (by omega) (by omega)
                        have hrc : r < k := by omega
                        have hr1c : r1 < k := by omega
                        have s6 : IntKind.i64.wrap ((r : Int) + 1) = (r1 : Int) := by rw [IntWalk.i64_in _ (by omega)]; omega
                        obtain ⟨t5, t6, t7⟩ := hT.top
                        have r5 := hT.row (i := 0) (by decide) hic
                        have r6 := hT.row (i := 0) (by decide) hr1c
                        have r7 := hT.row (i := 2) (by decide) hic
                        have q5 := hT.cell (i := 0) (by decide) hic hrc
                        have q6 := hT.cell (i := 0) (by decide) hr1c hjc
                        have q7 := hT.cell (i := 2) (by decide) hic hjc
                        have f7 := hT.frozen (i := 2) (by decide) hic j
                        rw [Mset_ne (by omega), HME.out _ _ _ (by omega), v1] at q5
                        rw [Mset_ne (by omega), HME.out _ _ _ (by omega), hr1, v2] at q6
                        rw [← hr1] at v5 v6 q6 HSN
                        rw [Mset_at] at q7
                        obtain ⟨fa, hfa⟩ : ∃ fa, fa = bc h g i r := ⟨_, rfl⟩
                        obtain ⟨fb, hfb⟩ : ∃ fb, fb = bc h g r1 j := ⟨_, rfl⟩
                        obtain ⟨fc, hfc⟩ : ∃ fc, fc = fa + fb := ⟨_, rfl⟩
                        rw [← hfa] at q5 v3 v4 HSN
                        rw [← hfb] at q6 v5 v6 HSN
                        rw [← hfc] at HSN
                        have s7 : IntKind.i64.wrap (fa + fb) = fc := by rw [IntWalk.i64_in _ (by omega), hfc]
                        have HT := hide hT
                        have HRR := hide hr
                        have HR1 := hide hr1
                        have HRH := hide hrh
                        clear hT hr hr1 hrh hm v1 v2 v3 v4 v5 v6 hfa hfb hfc hS l1 l2 l3 l4
                        by_cases hbv : bv < 0
                        · have d5 : decide (bv < 0) = true := decide_eq_true hbv
                          have HQ := hide (HSN.out.trans (if_pos (.inl hbv)))
                          clear hbv HSN
                          go_wp2_with fail
                          go_quiet (fail)
                          go_wp2
                          generalize hW2 : wr.drewN nq = W2
                          have hT2 : Tb w b0 w.heap.size k O P R (Mset M1 2 i j tv) W2 := by rw [← hW2]; exact HT.out.drewN _
                          clear t5 t6 t7 r5 r6 r7 q5 q6 q7 f7
                          obtain ⟨_, _, t7⟩ := hT2.top
                          have r7 := hT2.row (i := 2) (by decide) hic
                          have q7 := hT2.cell (i := 2) (by decide) hic hjc
                          rw [Mset_at] at q7
                          have f7 := hT2.frozen (i := 2) (by decide) hic j
                          have HT2 := hide hT2
                          clear hT2 hW2
                          go_still_tail 10, (by kernel_rfl)
                          change wpList _ _ _ _ _ W2.drew
                          go_wp2
                          go_roundw
                          case rel => exact ⟨m + 1, by have := HRR.out; have := HRH.out; omega, by have := HRR.out; have := HR1.out; congr 2; omega, by rw [HQ.out], by rw [HQ.out]; have h9 := (HT2.out.set (i := 2) (r := i) (q := j) (by decide) hic (r : Int)).drew; rw [Mset_twice] at h9; exact h9⟩
                          case measure => have := HRR.out; have := HRH.out; have := HR1.out; simp [intOf]; omega
                        · have d5 : decide (bv < 0) = false := decide_eq_false hbv
                          by_cases hfv : fc < bv
                          · have d6 : decide (fc < bv) = true := decide_eq_true hfv
                            have HQ := hide (HSN.out.trans (if_pos (.inr hfv)))
                            clear hbv hfv HSN
                            go_wp2_with fail
                            go_quiet (fail)
                            go_wp2
                            generalize hW2 : wr.drewN nq = W2
                            have hT2 : Tb w b0 w.heap.size k O P R (Mset M1 2 i j tv) W2 := by rw [← hW2]; exact HT.out.drewN _
                            clear t5 t6 t7 r5 r6 r7 q5 q6 q7 f7
                            obtain ⟨_, _, t7⟩ := hT2.top
                            have r7 := hT2.row (i := 2) (by decide) hic
                            have q7 := hT2.cell (i := 2) (by decide) hic hjc
                            rw [Mset_at] at q7
                            have f7 := hT2.frozen (i := 2) (by decide) hic j
                            have HT2 := hide hT2
                            clear hT2 hW2
                            go_still_tail 10, (by kernel_rfl)
                            change wpList _ _ _ _ _ W2.drew
                            go_wp2
                            go_roundw
                            case rel => exact ⟨m + 1, by have := HRR.out; have := HRH.out; omega, by have := HRR.out; have := HR1.out; congr 2; omega, by rw [HQ.out], by rw [HQ.out]; have h9 := (HT2.out.set (i := 2) (r := i) (q := j) (by decide) hic (r : Int)).drew; rw [Mset_twice] at h9; exact h9⟩
                            case measure => have := HRR.out; have := HRH.out; have := HR1.out; simp [intOf]; omega
                          · have d6 : decide (fc < bv) = false := decide_eq_false hfv
                            have HQ := hide (HSN.out.trans (if_neg (fun h => h.elim hbv hfv)))
                            clear hbv hfv HSN
                            go_wp2_with fail
                            go_quiet (fail)
                            go_wp2
                            go_roundw
                            case rel => exact ⟨m + 1, by have := HRR.out; have := HRH.out; omega, by have := HRR.out; have := HR1.out; congr 2; omega, by rw [HQ.out], by rw [HQ.out]; first | exact HT.out | exact HT.out.drew | exact HT.out.drewN _⟩
                            case measure => have := HRR.out; have := HRH.out; have := HR1.out; simp [intOf]; omega
                      · have d4 : decide (r ≤ j1) = false := decide_eq_false hrh
                        obtain ⟨hh0, hg0, hh1, hg1⟩ := HHH.out
                        have hij := HBB.out.1
                        have hsb := scan_between hh0 hg0 hij (M1 2 i j) l1 l2 l3 l4
                        rw [show j1 + 1 - i = m from by omega, ← hS, ← HX.out] at hsb
                        simp only at hsb
                        obtain ⟨y, hy⟩ : ∃ y, y = bc h g i j := ⟨_, rfl⟩
                        have hy1 := bc_le hh0 hg0 hh1 hg1 20 i j (by omega) (by omega) (by omega)
                        have hy2 := bc_pos hh0 hg0 _ i j (Nat.le_refl _)
                        rw [← hy] at hsb hy1 hy2
                        have s8 : IntKind.i64.wrap (bv + x) = y := by rw [IntWalk.i64_in _ (by omega)]; exact hsb.1
                        obtain ⟨t5, t6, t7⟩ := hT.top
                        have r5 := hT.row (i := 0) (by decide) hic
                        have r6 := hT.row (i := 1) (by decide) hic
                        have q5 := hT.cell (i := 0) (by decide) hic hjc
                        have q6 := hT.cell (i := 1) (by decide) hic hjc
                        have f5 := hT.frozen (i := 0) (by decide) hic j
                        rw [Mset_ne (by omega), HM1x.out] at q6
                        obtain ⟨y5, hy5⟩ : ∃ y5, y5 = Mset M1 2 i j tv 0 i j := ⟨_, rfl⟩
                        rw [← hy5] at q5
                        have HT := hide hT
                        have HY := hide hy
                        have HTV := hide hsb.2
                        clear hT hr hrh hm hS l1 l2 l3 l4 hh0 hg0 hh1 hg1 hij hsb hy1 hy2 hy5 hy
                        go_wp2
                        go_still_tail 17, (by kernel_rfl)
                        change wpList _ _ _ _ _ wr.drew
                        go_wp2
                        go_roundw
                        case rel =>
                          refine ⟨i1, Mset (Mset M1 2 i j tv) 0 i j y, ?_, rfl, HT.out.drew.set (by decide) hic y, ?_⟩
                          · have := HI1.out; have := HJN.out; have := HJ.out; have := HCC.out; omega
                          · rw [HI1.out]
                            refine HD1.out.step HJ.out HL1.out HJN.out ?_ ?_ ?_ fun t r q hne => ?_
                            · rw [Mset_at]; exact HY.out
                            · rw [Mset_ne (by omega), Mset_ne (by omega), HM1x.out]; exact HX.out
                            · rw [Mset_ne (by omega), Mset_at]; exact HTV.out
                            · rw [Mset_ne (fun h => hne ⟨h.2.1, h.2.2⟩), Mset_ne (fun h => hne ⟨h.2.1, h.2.2⟩), HME.out _ _ _ (fun h => hne ⟨h.2.1, h.2.2⟩)]
                        case measure => have := HI1.out; have := HJN.out; have := HJ.out; simp [intOf]; omega
                · have d2 : decide (j ≤ n) = false := decide_eq_false (by omega)
                  have HD2 := hide (hD.next (by omega))
                  have HT2 := hide hT
                  clear hT hD hjn hj hcn hiL
                  go_wp2
                  go_roundw
                  case rel => exact ⟨L + 1, M, by omega, by have := HCC.out; have := HLN.out; omega, by go_num, HT2.out, HD2.out⟩
                  case measure => have := HLN.out; simp [intOf]; omega
end Go.Proofs.Ytpmhpogkpkhbfaa
