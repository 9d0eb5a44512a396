/-
  best.filled's table while its rows are made: three slices of rows in one struct; whose each block is (a ghost). Conditions: none.
-/
import Derived.Test.YtpmhpogkpkhbfaaRegGho
import Derived.Test.YtpmhpogkpkhbfaaRegMore
import Derived.Test.YtpmhpogkpkhbfaaMTree
import Derived.Test.YtpmhpogkpkhbfaaArr
import Derived.Test.YtpmhpogkpkhbfaaOws
namespace Go.Proofs.Ytpmhpogkpkhbfaa
open Go.ChangeShapes Go.WideShapes Go.ChangeAt Go.RowKit
set_option linter.unusedVariables false
set_option linter.unusedSimpArgs false

theorem AR.kf {α : Type} {w w' : World} {F : Nat → Prop} {g : Nat} {e : TypeId} {E : Enc α} {l : List α} (h : AR w g e E l) (hk : Kf F w w') (hn : ¬ F g) : AR w' g e E l := (hk.block h.lt hn).trans h
theorem ow_ar_ne {α β : Type} {w : World} {B b : Nat} {e e' : TypeId} {E : Enc α} {E' : Enc β} {v : Value} {l : List α} {l' : List β} (h : OW w B e E v l) (h' : AR w b e' E' l') (hn : e ≠ e') : v.ownBlock ≠ some b := h.bc_ne (cs := l'.flatMap E'.cells) h' hn
def upd (γ : Nat → Nat) (b i : Nat) : Nat → Nat := fun x => if x = b then i else γ x
theorem upd_lt {γ : Nat → Nat} {b i x : Nat} (h : x < b) : upd γ b i x = γ x := by unfold upd; rw [if_neg (by omega)]
theorem upd_at {γ : Nat → Nat} {b i : Nat} : upd γ b i b = i := by unfold upd; rw [if_pos rfl]
def sl (c b : Nat) : V1 := ⟨.slice (some ⟨b, 0, none⟩) c c, slice_one _ _ _⟩
/-- One slice of rows, of zeros. -/
def TbC (w : World) (H0 c : Nat) (γ : Nat → Nat) (i : Nat) (x : Value) (bs : List Nat) : Prop :=
  OW w H0 22 eVal x (bs.map (sl c)) ∧ (∀ o, x.ownBlock = some o → γ o = i) ∧ (∀ b ∈ bs, AR w b 3 eInt (List.replicate c 0) ∧ γ b = i ∧ H0 ≤ b) ∧ bs.Nodup
section
variable {w w' w0 : World} {H0 c i bt rb B : Nat} {γ γ' : Nat → Nat} {x : Value} {bs : List Nat} {F : Nat → Prop}
theorem TbC.kf (h : TbC w H0 c γ i x bs) (hk : Kf F w w') (hγ : ∀ o, o < w.heap.size → γ' o = γ o) (hx : ∀ o, x.ownBlock = some o → ¬ F o) (hb : ∀ b ∈ bs, ¬ F b) : TbC w' H0 c γ' i x bs := by
  obtain ⟨h1, h2, h3, h4⟩ := h
  refine ⟨h1.kf hk hx, fun o ho => ?_, fun b hm => ?_, h4⟩
  · rw [hγ o (h1.lt o ho).2]; exact h2 o ho
  · obtain ⟨a1, a2, a3⟩ := h3 b hm
    exact ⟨a1.kf hk (hb b hm), by rw [hγ b a1.lt]; exact a2, a3⟩
/-- The region's stages: of chain i the load is operation 1 + 7 i, the append 6 + 7 i, the store 22 + 2 i. -/
def JW (w0 : World) (bt rb c B : Nat) (X : Nat → Value) (BS : Nat → List Nat) (L : Array Bool) (w : World) (γ : Nat → Nat) : Prop :=
  Kp w0 w ∧ w0.heap.size ≤ bt ∧ bt < B ∧ w0.heap.size ≤ B ∧ B ≤ w.heap.size ∧ (BC w rb 56 [.slice none 0 0, .slice none 0 0, .slice none 0 0] ∧ rb ≠ bt) ∧ ∃ Y : Nat → Value, BC w bt 56 [Y 0, Y 1, Y 2] ∧ ∀ i, i < 3 →
    (L.getD (22 + 2 * i) true = true → L.getD (6 + 7 * i) true = true) ∧ (L.getD (6 + 7 * i) true = true → L.getD (1 + 7 * i) true = true) ∧ (∀ o, (X i).ownBlock = some o → o < B) ∧ (∀ b ∈ BS i, b < B) ∧
    (L.getD (22 + 2 * i) true = false → Y i = X i) ∧ (L.getD (6 + 7 * i) true = false → TbC w w0.heap.size c γ i (X i) (BS i)) ∧ (L.getD (22 + 2 * i) true = true → ∃ b, B ≤ b ∧ TbC w w0.heap.size c γ i (Y i) (BS i ++ [b]))
def GG (w0 : World) (c B : Nat) (BS : Nat → List Nat) (d : Nat) (v : Value) (w : World) (γ : Nat → Nat) : Prop :=
  ∀ i, i < 3 → (d = 26 + 7 * i → ∃ b, v = .slice (some ⟨b, 0, none⟩) c c ∧ AR w b 3 eInt (List.replicate c 0) ∧ B ≤ b ∧ γ b = i) ∧
    (d = 27 + 7 * i → ∃ b b', v = .slice (some ⟨b', 0, none⟩) 1 1 ∧ AR w b' 22 eVal [sl c b] ∧ B ≤ b' ∧ AR w b 3 eInt (List.replicate c 0) ∧ B ≤ b ∧ γ b = i) ∧
    (d = 28 + 7 * i → ∃ b, B ≤ b ∧ TbC w w0.heap.size c γ i v (BS i ++ [b]))
theorem getD_set (L : Array Bool) (k j : Nat) : (L.setIfInBounds k true).getD j true = (decide (j = k) || L.getD j true) := by
  simp only [Array.getD_eq_getD_getElem?]
  by_cases h : j = k
  · subst h
    by_cases h2 : j < L.size
    · simp [Array.getElem?_setIfInBounds_self_of_lt h2]
    · simp [Array.getElem?_eq_none (Nat.le_of_not_lt h2)]
  · rw [Array.getElem?_setIfInBounds_ne (Ne.symm h)]
    simp [h]
theorem getD_ne {L : Array Bool} {k j : Nat} (h : j ≠ k) : (L.setIfInBounds k true).getD j true = L.getD j true := by rw [getD_set]; simp [h]
theorem getD_mono {L : Array Bool} {k j : Nat} (h : L.getD j true = true) : (L.setIfInBounds k true).getD j true = true := by rw [getD_set, h]; simp
theorem getD_own {L : Array Bool} {k : Nat} : (L.setIfInBounds k true).getD k true = true := by rw [getD_set]; simp
/-- An operation that changes no block that is told. -/
theorem JW.go {X : Nat → Value} {BS : Nat → List Nat} {L : Array Bool} {k : Nat} (h : JW w0 bt rb c B X BS L w γ) (hk : Kp w w') (hγ : ∀ o, o < w.heap.size → γ' o = γ o) (h1 : ∀ i, i < 3 → k ≠ 6 + 7 * i ∧ k ≠ 22 + 2 * i) : JW w0 bt rb c B X BS (L.setIfInBounds k true) w' γ' := by
  obtain ⟨a1, a2, a3, a4, a5, ⟨a8, a9⟩, Y, a6, a7⟩ := h
  have hkf : Kf (fun _ => False) w w' := Kf.of hk
  refine ⟨a1.trans hk, a2, a3, a4, Nat.le_trans a5 hk.size, ⟨a8.kp hk, a9⟩, Y, a6.kp hk, fun i hi => ?_⟩
  obtain ⟨b1, b2, b3, b4, b5, b6, b7⟩ := a7 i hi
  obtain ⟨c1, c2⟩ := h1 i hi
  rw [getD_ne (Ne.symm c1), getD_ne (Ne.symm c2)]
  refine ⟨b1, fun h => getD_mono (b2 h), b3, b4, b5, fun h => (b6 h).kf hkf hγ (fun _ _ h => h) (fun _ _ h => h), fun h => ?_⟩
  obtain ⟨b, hb, ht⟩ := b7 h
  exact ⟨b, hb, ht.kf hkf hγ (fun _ _ h => h) (fun _ _ h => h)⟩
theorem GG.kf {BS : Nat → List Nat} {d : Nat} {v : Value} (h : GG w0 c B BS d v w γ) (hk : Kf F w w') (hγ : ∀ o, o < w.heap.size → γ' o = γ o) (h1 : ∀ b, AR w b 3 eInt (List.replicate c 0) → ¬ F b)
    (h2 : ∀ b m, AR w b 22 eVal m → B ≤ b → ¬ F b) (h3 : ∀ i, i < 3 → d = 28 + 7 * i → ∀ b, TbC w w0.heap.size c γ i v (BS i ++ [b]) → ∀ o, v.ownBlock = some o → ¬ F o) : GG w0 c B BS d v w' γ' := by
  intro i hi
  obtain ⟨a1, a2, a3⟩ := h i hi
  refine ⟨fun e => ?_, fun e => ?_, fun e => ?_⟩
  · obtain ⟨b, e1, e2, e3, e4⟩ := a1 e
    exact ⟨b, e1, e2.kf hk (h1 b e2), e3, by rw [hγ b e2.lt]; exact e4⟩
  · obtain ⟨b, b', e1, e2, e3, e4, e5, e6⟩ := a2 e
    exact ⟨b, b', e1, e2.kf hk (h2 b' _ e2 e3), e3, e4.kf hk (h1 b e4), e5, by rw [hγ b e4.lt]; exact e6⟩
  · obtain ⟨b, hb, ht⟩ := a3 e
    exact ⟨b, hb, ht.kf hk hγ (h3 i hi e b ht) (fun b hm => h1 b (ht.2.2.1 b hm).1)⟩
theorem GG.kp {BS : Nat → List Nat} {d : Nat} {v : Value} (h : GG w0 c B BS d v w γ) (hk : Kp w w') (hγ : ∀ o, o < w.heap.size → γ' o = γ o) : GG w0 c B BS d v w' γ' :=
  h.kf (Kf.of (F := fun _ => False) hk) hγ (fun _ _ h => h) (fun _ _ _ _ h => h) (fun _ _ _ _ _ _ _ h => h)
theorem GG.none {BS : Nat → List Nat} {d : Nat} {v : Value} (h : ∀ i, i < 3 → d ≠ 26 + 7 * i ∧ d ≠ 27 + 7 * i ∧ d ≠ 28 + 7 * i) : GG w0 c B BS d v w γ := fun i hi => ⟨fun e => absurd e (h i hi).1, fun e => absurd e (h i hi).2.1, fun e => absurd e (h i hi).2.2⟩
/-- The append of chain i: what it leaves. -/
theorem tb_app {X : Nat → Value} {BS : Nat → List Nat} {L : Array Bool} (h : JW w0 bt rb c B X BS L w γ) (hi : i < 3) (hl : L.getD (6 + 7 * i) true = false) (hld : L.getD (1 + 7 * i) true = true) {b : Nat} (hb : B ≤ b) (ha : AR w b 3 eInt (List.replicate c 0)) (hg : γ b = i)
    {v : Value} (ho : OW w' w0.heap.size 22 eVal v ((BS i).map (sl c) ++ [sl c b])) (hgr : w.grownBy w' (X i).ownBlock) (hat : v.ownBlock = (X i).ownBlock ∨ v.ownBlock = some w.heap.size) :
    JW w0 bt rb c B X BS (L.setIfInBounds (6 + 7 * i) true) w' (upd γ w.heap.size i) ∧ GG w0 c B BS (28 + 7 * i) v w' (upd γ w.heap.size i) ∧ ∀ d u, d ≠ 28 + 7 * i → GG w0 c B BS d u w γ → GG w0 c B BS d u w' (upd γ w.heap.size i) := by
  obtain ⟨a1, a2, a3, a4, a5, ⟨a8, a9⟩, Y, a6, a7⟩ := h
  obtain ⟨b1, b2, b3, b4, b5, b6, b7⟩ := a7 i hi
  have ht := b6 hl
  have hkf : Kf (fun o => (X i).ownBlock = some o) w w' := Kf.app (Kf.refl _ _) hgr (fun k hk => .inl hk)
  have hγ : ∀ o, o < w.heap.size → upd γ w.heap.size i o = γ o := fun o ho => upd_lt ho
  have hrow : ∀ r, AR w r 3 eInt (List.replicate c 0) → ¬ (X i).ownBlock = some r := fun r hr => ow_ar_ne ht.1 hr (by decide)
  have hother : ∀ j x m, j ≠ i → TbC w w0.heap.size c γ j x m → TbC w' w0.heap.size c (upd γ w.heap.size i) j x m := fun j x m hj hx =>
    hx.kf hkf hγ (fun o ho hF => hj (by rw [← hx.2.1 o ho, ht.2.1 o hF])) (fun r hr => hrow r (hx.2.2.1 r hr).1)
  have hst : L.getD (22 + 2 * i) true = false := by
    cases e : L.getD (22 + 2 * i) true with
    | false => rfl
    | true => rw [b1 e] at hl; cases hl
  refine ⟨⟨a1.app hgr ht.1.hi, a2, a3, a4, Nat.le_trans a5 (Kf.size hkf), ⟨a8.kf hkf (ht.1.bc_ne a8 (by decide)), a9⟩, Y, a6.kf hkf (ht.1.bc_ne a6 (by decide)), fun j hj => ?_⟩, fun j hj => ⟨fun e => by omega, fun e => by omega, fun e => ?_⟩, fun d u hd hG => ?_⟩
  · obtain ⟨c1, c2, c3, c4, c5, c6, c7⟩ := a7 j hj
    by_cases e : j = i
    · subst e
      rw [getD_own, getD_ne (by omega), getD_ne (by omega)]
      exact ⟨fun _ => rfl, fun _ => hld, c3, c4, c5, fun h => (by cases h), fun h => (by rw [hst] at h; cases h)⟩
    · rw [getD_ne (by omega), getD_ne (by omega), getD_ne (by omega)]
      refine ⟨c1, c2, c3, c4, c5, fun h => hother j _ _ e (c6 h), fun h => ?_⟩
      obtain ⟨r, hr, hx⟩ := c7 h
      exact ⟨r, hr, hother j _ _ e hx⟩
  · have e : j = i := by omega
    subst e
    refine ⟨b, hb, ?_, fun o ho => ?_, fun r hr => ?_, ?_⟩
    · rw [List.map_append]; exact ho
    · rcases hat with h | h
      · rw [h] at ho
        rw [hγ o (ht.1.lt o ho).2]
        exact ht.2.1 o ho
      · rw [h] at ho
        injection ho with ho
        rw [← ho]; exact upd_at
    · rcases List.mem_append.1 hr with hr | hr
      · obtain ⟨d1, d2, d3⟩ := ht.2.2.1 r hr
        exact ⟨d1.kf hkf (hrow r d1), by rw [hγ r d1.lt]; exact d2, d3⟩
      · rw [List.mem_singleton] at hr
        subst hr
        exact ⟨ha.kf hkf (hrow r ha), by rw [hγ r ha.lt]; exact hg, Nat.le_trans a4 hb⟩
    · rw [List.nodup_append]
      refine ⟨ht.2.2.2, by simp, fun p hp q hq => ?_⟩
      rw [List.mem_singleton] at hq
      subst hq
      have := b4 p hp
      omega
  · refine hG.kf hkf hγ hrow (fun r m hr hB hF => ?_) (fun j hj e r hx o ho hF => ?_)
    · have := b3 r hF; omega
    · have : j ≠ i := fun e2 => hd (by rw [e, e2])
      exact this (by rw [← hx.2.1 o ho, ht.2.1 o hF])
/-- The store of chain i. -/
theorem tb_store {X : Nat → Value} {BS : Nat → List Nat} {L : Array Bool} (h : JW w0 bt rb c B X BS L w γ) (hi : i < 3) (hap : L.getD (6 + 7 * i) true = true) {v : Value} (hG : GG w0 c B BS (28 + 7 * i) v w γ) :
    JW w0 bt rb c B X BS (L.setIfInBounds (22 + 2 * i) true) (w.setCell ⟨bt, i, none⟩ v) γ ∧ ∀ d u, GG w0 c B BS d u w γ → GG w0 c B BS d u (w.setCell ⟨bt, i, none⟩ v) γ := by
  obtain ⟨a1, a2, a3, a4, a5, ⟨a8, a9⟩, Y, a6, a7⟩ := h
  obtain ⟨b, hb, ht⟩ := (hG i hi).2.2 rfl
  have hkf : Kf (fun o => o = bt) w (w.setCell ⟨bt, i, none⟩ v) := Kf.set (Kf.refl _ _) (.inl rfl)
  have hrow : ∀ r, AR w r 3 eInt (List.replicate c 0) → ¬ r = bt := fun r hr => BC.ne (show BC w r _ _ from hr) a6 (by decide)
  have hall : ∀ j x m, TbC w w0.heap.size c γ j x m → TbC (w.setCell ⟨bt, i, none⟩ v) w0.heap.size c γ j x m := fun j x m hx =>
    hx.kf hkf (fun _ _ => rfl) (fun o ho hF => hx.1.bc_ne a6 (by decide) (by rw [ho, hF])) (fun r hr => hrow r (hx.2.2.1 r hr).1)
  refine ⟨⟨a1.set a2 v, a2, a3, a4, Nat.le_trans a5 (Kf.size hkf), ⟨a8.kf hkf a9, a9⟩, fun j => if j = i then v else Y j, ?_, fun j hj => ?_⟩, fun d u h => h.kf hkf (fun _ _ => rfl) hrow (fun r m hr _ => BC.ne (show BC w r _ _ from hr) a6 (by decide)) (fun j hj _ r hx o ho hF => hx.1.bc_ne a6 (by decide) (by rw [ho, hF]))⟩
  · have h1 := a6.set (j := i) (u := v)
    have e : [Y 0, Y 1, Y 2].set i v = [if 0 = i then v else Y 0, if 1 = i then v else Y 1, if 2 = i then v else Y 2] := by
      match i, hi with
      | 0, _ => rfl
      | 1, _ => rfl
      | 2, _ => rfl
    rw [e] at h1
    exact h1
  · obtain ⟨c1, c2, c3, c4, c5, c6, c7⟩ := a7 j hj
    by_cases e : j = i
    · subst e
      rw [getD_own, getD_ne (by omega), getD_ne (by omega)]
      exact ⟨fun _ => hap, c2, c3, c4, fun h => (by cases h), fun h => hall _ _ _ (c6 h), fun _ => ⟨b, hb, by simp only [if_pos]; exact hall _ _ _ ht⟩⟩
    · rw [getD_ne (by omega), getD_ne (by omega), getD_ne (by omega)]
      simp only [if_neg e]
      refine ⟨c1, c2, c3, c4, c5, fun h => hall _ _ _ (c6 h), fun h => ?_⟩
      obtain ⟨r, hr, hx⟩ := c7 h
      exact ⟨r, hr, hall _ _ _ hx⟩
theorem tb_stages {X : Nat → Value} {BS : Nat → List Nat} {L : Array Bool} (h : JW w0 bt rb c B X BS L w γ) (hi : i < 3) : (L.getD (1 + 7 * i) true = false → L.getD (22 + 2 * i) true = false) := fun hl => by
  obtain ⟨_, _, _, _, _, _, Y, _, a7⟩ := h
  obtain ⟨b1, b2, _⟩ := a7 i hi
  cases e : L.getD (22 + 2 * i) true with
  | false => rfl
  | true => rw [b2 (b1 e)] at hl; cases hl
theorem tb_load {X : Nat → Value} {BS : Nat → List Nat} {L : Array Bool} (h : JW w0 bt rb c B X BS L w γ) (hi : i < 3) (hl : L.getD (1 + 7 * i) true = false) : (Instr.loadAt 31 (.pointer (some ⟨bt, i, none⟩))).run Try.prog w = .ok (X i) w := by
  have hst := tb_stages h hi hl
  obtain ⟨a1, a2, a3, a4, a5, _, Y, a6, a7⟩ := h
  obtain ⟨b1, b2, b3, b4, b5, b6, b7⟩ := a7 i hi
  have hap : L.getD (6 + 7 * i) true = false := by
    cases e : L.getD (6 + 7 * i) true with
    | false => rfl
    | true => rw [b2 e] at hl; cases hl
  have c0 : w.cell? ⟨bt, i, none⟩ = some (X i) := by
    rw [a6.cell, ← b5 hst]
    match i, hi with
    | 0, _ => rfl
    | 1, _ => rfl
    | 2, _ => rfl
  obtain ⟨A, N, cc, hx⟩ : ∃ A N cc, X i = .slice A N cc := by
    obtain ⟨A, cc, e, _⟩ := (b6 hap).1.rd
    exact ⟨A, _, cc, e⟩
  rw [hx] at c0 ⊢
  go_simp
theorem tb_run {X : Nat → Value} {BS : Nat → List Nat} {L : Array Bool} (ty : TypeId) (h : JW w0 bt rb c B X BS L w γ) (hi : i < 3) (hl : L.getD (6 + 7 * i) true = false) (hn : (BS i).length ≤ 1000) {b b' : Nat} (h0 : AR w b' 22 eVal [sl c b]) :
    ∃ v' w', (Builtin.append_ #[31, 31] ty #[X i, .slice (some ⟨b', 0, none⟩) 1 1]).run Try.prog w = .ok v' w' ∧ OW w' w0.heap.size 22 eVal v' ((BS i).map (sl c) ++ [sl c b]) ∧ w.grownBy w' (X i).ownBlock ∧ (v'.ownBlock = (X i).ownBlock ∨ v'.ownBlock = some w.heap.size) := by
  obtain ⟨a1, a2, a3, a4, a5, _, Y, a6, a7⟩ := h
  obtain ⟨b1, b2, b3, b4, b5, b6, b7⟩ := a7 i hi
  exact run_app ty row_ints (b6 hl).1 (h0.rd (by simp [maxLen])) (by simp; omega) (by simp [maxLen]; omega) (Nat.le_trans a4 a5)
theorem run_exec_app {P : Program} {o : Oper} {a : Act} {t : TypeId} {u v v' : Value} (s x : Operand) (ho : o.op = .call { callee := .builtin .append, args := #[s, x], argTypes := #[t, t] }) (hs : a.eval s = v) (hx : a.eval x = u) (hr : (Builtin.append_ #[t, t] o.type #[v, u]).run P w = .ok v' w') :
    (execOp a.eval o).run P w = .ok (.value v') w' := by
  unfold execOp
  simp only [ho, resolve, invoke, builtin, Sem.run_bind, Sem.run_pure, Result.andThen_ok, List.map_toArray, List.map_cons, List.map_nil, hs, hx, hr]
theorem tb_storeRun {X : Nat → Value} {BS : Nat → List Nat} {L : Array Bool} (h : JW w0 bt rb c B X BS L w γ) (hi : i < 3) {v : Value} (hG : GG w0 c B BS (28 + 7 * i) v w γ) : (Instr.storeAt 31 (.pointer (some ⟨bt, i, none⟩)) v).run Try.prog w = .ok () (w.setCell ⟨bt, i, none⟩ v) := by
  obtain ⟨a1, a2, a3, a4, a5, _, Y, a6, a7⟩ := h
  obtain ⟨b, hb, ht⟩ := (hG i hi).2.2 rfl
  obtain ⟨A, cc, e, _⟩ := ht.1.rd
  subst e
  have c0 : ∃ y, w.cell? ⟨bt, i, none⟩ = some y := by
    rw [a6.cell]
    match i, hi with
    | 0, _ => exact ⟨_, rfl⟩
    | 1, _ => exact ⟨_, rfl⟩
    | 2, _ => exact ⟨_, rfl⟩
  obtain ⟨y, c0⟩ := c0
  have f0 := a6.frozen i
  go_simp
theorem gg_make {X : Nat → Value} {BS : Nat → List Nat} {L : Array Bool} (h : JW w0 bt rb c B X BS L w γ) (hi : i < 3) (ha : AR w' w.heap.size 3 eInt (List.replicate c 0)) : GG w0 c B BS (26 + 7 * i) (.slice (some ⟨w.heap.size, 0, none⟩) c c) w' (upd γ w.heap.size i) := fun j hj => by
  obtain ⟨a1, a2, a3, a4, a5, _⟩ := h
  refine ⟨fun e => ?_, fun e => by omega, fun e => by omega⟩
  have : j = i := by omega
  subst this
  exact ⟨_, rfl, ha, a5, upd_at⟩
theorem gg_build {X : Nat → Value} {BS : Nat → List Nat} {L : Array Bool} (h : JW w0 bt rb c B X BS L w γ) (hi : i < 3) {b : Nat} (h1 : AR w b 3 eInt (List.replicate c 0)) (h2 : B ≤ b) (h3 : γ b = i) :
    GG w0 c B BS (27 + 7 * i) (.slice (some ⟨w.heap.size, 0, none⟩) 1 1) (w.alloc (.cells #[.slice (some ⟨b, 0, none⟩) c c] 22)) γ := fun j hj => by
  obtain ⟨a1, a2, a3, a4, a5, _⟩ := h
  refine ⟨fun e => by omega, fun e => ?_, fun e => by omega⟩
  have : j = i := by omega
  subst this
  exact ⟨b, _, rfl, heap_alloc_new w _, a5, h1.alloc, h2, h3⟩
end
theorem tb_end {w w0 : World} {bt rb c B k : Nat} {γ : Nat → Nat} {X : Nat → Value} {BS : Nat → List Nat} (h : JW w0 bt rb c B X BS (Array.replicate 27 true) w γ) (hl : ∀ i, i < 3 → (BS i).length = k) :
    ∃ (Y : Nat → Value) (BS' : Nat → List Nat), Kp w0 w ∧ BC w rb 56 [.slice none 0 0, .slice none 0 0, .slice none 0 0] ∧ BC w bt 56 [Y 0, Y 1, Y 2] ∧ ∀ i, i < 3 → (BS' i).length = k + 1 ∧ TbC w w0.heap.size c γ i (Y i) (BS' i) := by
  obtain ⟨a1, a2, a3, a4, a5, ⟨a8, a9⟩, Y, a6, a7⟩ := h
  have hf : ∀ j, j < 27 → (Array.replicate 27 true).getD j true = true := fun j hj => by simp [Array.getD, hj]
  have hb : ∀ i, i < 3 → ∃ b, TbC w w0.heap.size c γ i (Y i) (BS i ++ [b]) := fun i hi => by
    obtain ⟨_, _, _, _, _, _, b7⟩ := a7 i hi
    obtain ⟨b, _, ht⟩ := b7 (hf _ (by omega))
    exact ⟨b, ht⟩
  obtain ⟨p0, h0⟩ := hb 0 (by omega)
  obtain ⟨p1, h1⟩ := hb 1 (by omega)
  obtain ⟨p2, h2⟩ := hb 2 (by omega)
  refine ⟨Y, fun i => BS i ++ [if i = 0 then p0 else if i = 1 then p1 else p2], a1, a8, a6, fun i hi => ⟨by simp [hl i hi], ?_⟩⟩
  match i, hi with
  | 0, _ => exact h0
  | 1, _ => exact h1
  | 2, _ => exact h2
end Go.Proofs.Ytpmhpogkpkhbfaa
