/-
  What a step costs: of those that look twice, and of those that go hand over hand. Conditions: as each theorem says.
  What a step costs: of those that go hand over hand, and of those that mark. Conditions: as each theorem says.
  What holds of whole runs: all deeds are done, in an order by which a set answers the same; whoever marks is not kept by one that stops. Conditions: as each theorem says.
  What is left, how often keys came and went, and the search for an order: in plain Lean. Conditions: as each theorem says.
  Who is alone has done its deed soon, and answers what is so. Conditions: as each theorem says.
  What a call leaves that writes one block of its caller's own (Kg). Conditions: none.
-/
import Derived.Test.YtoihdnekkgpcoaaG2
import Derived.Test.YtoihdnekkgpcoaaG1

namespace Go.Proofs.Ytoihdnekkgpcoaa
set_option linter.unusedVariables false
set_option linter.unusedSimpArgs false
open Classical in
/-- Cost, but for one that is behind its time. -/
noncomputable def owe (a : Nat) (c : Prop) (b : Nat) : Nat := a + if c then 0 else b
theorem owe_le {a a' b X : Nat} {c c' : Prop} (h : c → c') (ha : a' + X ≤ a) : owe a' c' b + X ≤ owe a c b := by
  unfold owe
  split
  · split <;> omega
  · rename_i h'
    rw [if_neg (fun hc => h' (h hc))]; omega
theorem owe_late {a a' b X : Nat} {c c' : Prop} (h : ¬ c) (hc : c') (ha : a' + X ≤ a + b) : owe a' c' b + X ≤ owe a c b := by
  unfold owe
  rw [if_pos hc, if_neg h]; omega
theorem owe_more {a b : Nat} {c c' : Prop} : owe a c' b ≤ owe a c b + b := by
  unfold owe
  split <;> split <;> omega
theorem owe_pos {a b : Nat} {c : Prop} (h : c) : owe a c b = a := by unfold owe; rw [if_pos h]; rfl
theorem owe_max {a b : Nat} {c : Prop} : owe a c b ≤ a + b := by unfold owe; split <;> omega
theorem owe_min {a b : Nat} {c : Prop} : a ≤ owe a c b := by unfold owe; omega

def aLz (m : Mm) (h : Hd) : Nat := if h.plc = 0 then 32 else if h.plc = 1 then 20 + (11 - m.ky h.c).toNat else if h.plc = 2 then 20 else if h.plc = 3 then 15 else if h.plc = 4 then 10 else 5
def clLz (m : Mm) (h : Hd) : Prop := h.plc = 0 ∨ (Rc m.nx 0 h.p ∧ m.nx h.p = h.c)
noncomputable def ownLz (m : Mm) (h : Hd) : Nat := owe (aLz m h) (clLz m h) 30
def unLz (lk : Nat → Bool) (h : Hd) : Prop := 4 ≤ h.plc ∨ (h.plc = 3 ∧ lk h.c = false)
def blLz (lk : Nat → Bool) (h : Hd) : Prop := (h.plc = 2 ∧ lk h.p = true) ∨ (h.plc = 3 ∧ lk h.c = true)
/-- What a step costs. -/
def Cost (own : Mm → Hd → Nat) (un bl : (Nat → Bool) → Hd → Prop) (m : Mm) (h : Hd) (r : Mm × Hd × Bool) : Prop :=
  (r.2.2 = true ∧ ∀ x, x < m.n → r.1.ky x = m.ky x) ∨
  (r.2.2 = false ∧ r.1.ky = m.ky ∧ r.1.nx = m.nx ∧
    (own r.1 r.2.1 + 5 ≤ own m h ∨
     (¬ un m.lk h ∧ ¬ bl m.lk h ∧ r.1.lk = m.lk ∧ own r.1 r.2.1 + 1 ≤ own m h) ∨
     (¬ un m.lk h ∧ bl m.lk h ∧ r.1.lk = m.lk ∧ own r.1 r.2.1 ≤ own m h)))
theorem lazy_cost {nh : Nat} {D : Nat → Nat → Dd} {S : Nat → Int → Prop} {pos : Nat → Nat → Nat} {s : St} (I : LzI nh D S pos s) (i : Nat) (d : Dd) (hd : d = D i (s.deed i)) (hk : okD d) : Cost ownLz unLz blLz s.m (s.hd i) (lazyS s.m (s.hd i) d) := by
  obtain ⟨li, mi, hq, lk, cl⟩ := I
  obtain ⟨q, pg⟩ := hq i
  rw [← hd] at q
  obtain ⟨m, hm⟩ : ∃ m, m = s.m := ⟨_, rfl⟩
  obtain ⟨h, hh⟩ : ∃ h, h = s.hd i := ⟨_, rfl⟩
  rw [← hm, ← hh] at q ⊢
  rw [← hm] at mi lk cl
  obtain ⟨q1, q2, q3, q4, q5⟩ := q
  have quiet : ∀ (m' : Mm) (h' : Hd), m'.ky = m.ky → m'.nx = m.nx → lazyS m h d = (m', h', false) →
      (ownLz m' h' + 5 ≤ ownLz m h ∨ (¬ unLz m.lk h ∧ ¬ blLz m.lk h ∧ m'.lk = m.lk ∧ ownLz m' h' + 1 ≤ ownLz m h) ∨ (¬ unLz m.lk h ∧ blLz m.lk h ∧ m'.lk = m.lk ∧ ownLz m' h' ≤ ownLz m h)) → Cost ownLz unLz blLz m h (lazyS m h d) := by
    intro m' h' e1 e2 er hx
    rw [er]; exact Or.inr ⟨rfl, e1, e2, hx⟩
  have over : ∀ (m' : Mm) (h' : Hd), (∀ x, x < m.n → m'.ky x = m.ky x) → lazyS m h d = (m', h', true) → Cost ownLz unLz blLz m h (lazyS m h d) := by
    intro m' h' e1 er
    rw [er]; exact Or.inl ⟨rfl, e1⟩
  have c6 : h.plc = 0 ∨ h.plc = 1 ∨ h.plc = 2 ∨ h.plc = 3 ∨ h.plc = 4 ∨ h.plc = 5 := by omega
  have kc : h.plc ≠ 0 → 1 ≤ (11 - m.ky h.c).toNat := by intro e; have := mi.kl h.c (q2 e).2.1; omega
  have two : h.plc = 1 ∨ h.plc = 2 → lazyS m h d = lazy2 m h → Cost ownLz unLz blLz m h (lazyS m h d) := by
    intro hp er
    have ha : 20 ≤ aLz m h ∧ (h.plc = 1 → 21 ≤ aLz m h) := by
      have := kc (by omega)
      unfold aLz; rcases hp with e | e <;> simp [e]
      omega
    by_cases hl : m.lk h.p = true
    · refine quiet m { h with plc := 2 } rfl rfl (by rw [er]; unfold lazy2; rw [if_pos hl]) ?_
      have hc : clLz m h → clLz m { h with plc := 2 } := by
        rintro (hc | hc)
        · omega
        · exact Or.inr hc
      rcases hp with e | e
      · refine Or.inr (Or.inl ⟨by unfold unLz; omega, by unfold blLz; omega, rfl, owe_le hc ?_⟩)
        have := ha.2 e
        show 20 + 1 ≤ _; exact this
      · refine Or.inr (Or.inr ⟨by unfold unLz; omega, Or.inl ⟨e, hl⟩, rfl, ?_⟩)
        exact owe_le (X := 0) hc ha.1
    · refine quiet (m.lock h.p) { h with plc := 3 } rfl rfl (by rw [er]; unfold lazy2; rw [if_neg hl]) (Or.inl (owe_le ?_ ?_))
      · rintro (hc | hc)
        · omega
        · exact Or.inr hc
      · show 15 + 5 ≤ _; exact ha.1
  rcases c6 with e | e | e | e | e | e
  · refine quiet m (h.again m) rfl rfl (by unfold lazyS; rw [e]; rfl) (Or.inr (Or.inl ⟨by unfold unLz; omega, by unfold blLz; omega, rfl, owe_le (fun _ => Or.inr ⟨.refl _, rfl⟩) ?_⟩))
    have h1 := mi.ri 0 mi.pos (by rw [mi.k0]; omega)
    rw [mi.k0] at h1
    have e1 : aLz m (h.again m) = 20 + (11 - m.ky (m.nx 0)).toNat := rfl
    have e2 : aLz m h = 32 := by unfold aLz; rw [if_pos e]
    rw [e1, e2]; omega
  · by_cases h1 : m.ky h.c < d.key
    · refine quiet m (h.on m) rfl rfl (by unfold lazyS; rw [e]; simp [h1]) (Or.inr (Or.inl ⟨by unfold unLz; omega, by unfold blLz; omega, rfl, owe_le ?_ ?_⟩))
      · rintro (hc | ⟨hc1, hc2⟩)
        · omega
        · refine Or.inr ⟨?_, rfl⟩
          show Rc m.nx 0 h.c
          rw [← hc2]; exact hc1.trans (.step _ _ (.refl _))
      · have e1 : aLz m (h.on m) = 20 + (11 - m.ky (m.nx h.c)).toNat := by unfold aLz Hd.on; simp [e]
        have e2 : aLz m h = 20 + (11 - m.ky h.c).toNat := by unfold aLz; simp [e]
        have h2 := mi.ri h.c (q2 (by omega)).2.1 (by have := hk.2.1; omega)
        have h3 := mi.kl _ (mi.nl h.c (q2 (by omega)).2.1)
        rw [e1, e2]; omega
    · by_cases h3 : d.kind = 3
      · exact over m { h with is := decide (m.ky h.c = d.key) && !m.mr h.c } (fun _ _ => rfl) (by unfold lazyS; rw [e]; simp only [h1, h3, if_true, if_false])
      · exact two (Or.inl e) (by unfold lazyS; rw [e]; simp [h1, h3])
  · exact two (Or.inr e) (by unfold lazyS; rw [e]; rfl)
  · have ha : aLz m h = 15 := by unfold aLz; simp [e]
    by_cases hl : m.lk h.c = true
    · refine quiet m h rfl rfl (by unfold lazyS; rw [e]; simp [hl]) (Or.inr (Or.inr ⟨?_, Or.inr ⟨e, hl⟩, rfl, Nat.le_refl _⟩))
      unfold unLz; rw [hl]; simp; omega
    · refine quiet (m.lock h.c) { h with plc := 4 } rfl rfl (by unfold lazyS; rw [e]; simp [hl]) (Or.inl (owe_le ?_ ?_))
      · rintro (hc | hc)
        · omega
        · exact Or.inr hc
      · rw [ha]; exact Nat.le_refl 15
  · have ha : aLz m h = 10 := by unfold aLz; simp [e]
    obtain ⟨p1, p2, p3⟩ := q2 (by omega)
    by_cases hchk : (m.mr h.p || m.mr h.c || m.nx h.p != h.c) = true
    · refine quiet (m.free h.p h.c) { h with plc := 0 } rfl rfl (by unfold lazyS; rw [e]; simp only [hchk, if_true]) (Or.inl (owe_late ?_ (Or.inl rfl) (by rw [ha]; exact Nat.le_of_ble_eq_true rfl)))
      rintro (hc | ⟨hc1, hc2⟩)
      · omega
      · have n1 : m.mr h.p = false := by
          cases a : m.mr h.p with
          | false => rfl
          | true =>
            obtain ⟨j, j1, j2⟩ := cl h.p p1 a hc1
            have := lk.dis j i h.p (Or.inr ⟨by omega, j2.symm⟩) (Or.inl ⟨by rw [← hh]; omega, by rw [← hh]⟩)
            subst this; rw [← hh] at j1; omega
        have n2 : m.mr h.c = false := by
          cases a : m.mr h.c with
          | false => rfl
          | true =>
            have hc3 : Rc m.nx 0 h.c := by rw [← hc2]; exact hc1.trans (.step _ _ (.refl _))
            obtain ⟨j, j1, j2⟩ := cl h.c p2 a hc3
            have := lk.dis j i h.c (Or.inr ⟨by omega, j2.symm⟩) (Or.inr ⟨by rw [← hh]; omega, by rw [← hh]⟩)
            subst this; rw [← hh] at j1; omega
        rw [n1, n2, hc2] at hchk
        simp at hchk
    · have hchk3 : (m.mr h.p || m.mr h.c || m.nx h.p != h.c) = false := by simpa using hchk
      by_cases hk1 : d.kind = 1
      · by_cases hke : m.ky h.c = d.key
        · exact over (m.free h.p h.c) { h with is := false } (fun _ _ => rfl) (by unfold lazyS; rw [e]; simp only [hchk3, hk1, hke, if_true, Bool.false_eq_true, if_false])
        · exact over ((m.free h.p h.c).ins h.p h.c d.key) { h with is := true } (fun x hx => up_ne _ _ (show x ≠ m.n by omega)) (by unfold lazyS; rw [e]; simp only [hchk3, hk1, hke, if_true, Bool.false_eq_true, if_false])
      · by_cases hke : m.ky h.c = d.key
        · refine quiet (m.mark h.c) { h with plc := 5, is := true } rfl rfl (by unfold lazyS; rw [e]; simp only [hchk3, hk1, hke, if_true, Bool.false_eq_true, if_false]) (Or.inl (owe_le ?_ (by rw [ha]; exact Nat.le_refl 10)))
          rintro (hc | hc)
          · omega
          · exact Or.inr hc
        · exact over (m.free h.p h.c) { h with is := false } (fun _ _ => rfl) (by unfold lazyS; rw [e]; simp only [hchk3, hk1, hke, if_false, Bool.false_eq_true])
  · exact over ((m.drop h.p h.c).free h.p h.c) h (fun _ _ => rfl) (by unfold lazyS; rw [e]; rfl)

noncomputable def phLz (P : List (List Dd)) (s : St) (i : Nat) : Nat := 130 * (ndl P i - s.deed i) + ownLz s.m (s.hd i)
/-- What is known of a state, when the keys were l. -/
structure StI (J : (Nat → Int → Prop) → (Nat → Nat → Nat) → St → Prop) (P : List (List Dd)) (l : List Int) (s : St) : Prop where
  ex : ∃ S pos, J S pos s ∧ ∀ x, S 0 x ↔ InS (mm0 l) x
  cn : ∀ i, (s.hd i).plc ≠ 0 → can P s i = true
  dl : ∀ i, s.deed i ≤ ndl P i
  ln : ∀ i, s.deed i ≤ (s.told i).length ∧ (s.told i).length ≤ s.deed i + 1
  pr : ∀ i, (s.told i).length = s.deed i + 1 → can P s i = true
theorem StI.keep {J : (Nat → Int → Prop) → (Nat → Nat → Nat) → St → Prop} {P : List (List Dd)} {l : List Int} {s : St} {alg : Nat} (h : StI J P l s) (i : Nat) (hc : can P s i = true)
    (hs : ∀ S pos, J S pos s → ∃ S' pos', J S' pos' (stp alg (dd P i (s.deed i)) s i) ∧ ∀ t, t ≤ s.now → ∀ x, S' t x ↔ S t x) : StI J P l (stp alg (dd P i (s.deed i)) s i) := by
  obtain ⟨S, pos, hJ, h0⟩ := h.ex
  obtain ⟨S', pos', hJ', hS⟩ := hs S pos hJ
  have hB := toldB_len (h.ln i)
  refine ⟨⟨S', pos', hJ', fun x => by rw [hS 0 (Nat.zero_le _)]; exact h0 x⟩, ?_, ?_, ?_, ?_⟩
  · intro j
    rw [can_iff]
    by_cases hj : j = i
    · subst hj
      unfold stp; simp only []
      split
      · simp [up, hd0]
      · intro _; exact can_iff.1 hc
    · obtain ⟨o1, o2, _⟩ := @stp_other alg (dd P i (s.deed i)) s i j hj
      rw [o1, o2, ← can_iff]; exact h.cn j
  · intro j
    by_cases hj : j = i
    · subst hj
      unfold stp; simp only []
      split
      · simp only [up_same]; exact can_iff.1 hc
      · exact h.dl j
    · obtain ⟨_, o2, _⟩ := @stp_other alg (dd P i (s.deed i)) s i j hj
      rw [o2]; exact h.dl j
  · intro j
    by_cases hj : j = i
    · subst hj
      unfold stp; simp only []
      split
      · simp only [up_same, toldE, List.length_modify, hB]; omega
      · simp only [up_same, hB]; omega
    · obtain ⟨_, o2, o3⟩ := @stp_other alg (dd P i (s.deed i)) s i j hj
      rw [o2, o3]; exact h.ln j
  · intro j
    rw [can_iff]
    by_cases hj : j = i
    · subst hj
      unfold stp; simp only []
      split
      · simp only [up_same, toldE, List.length_modify, hB]; intro e; omega
      · intro _; exact can_iff.1 hc
    · obtain ⟨_, o2, o3⟩ := @stp_other alg (dd P i (s.deed i)) s i j hj
      rw [o2, o3, ← can_iff]; exact h.pr j
theorem lazyPot {P : List (List Dd)} (hP : ∀ l ∈ P, ∀ d ∈ l, okD d) (hl : P.length ≤ 4) (l : List Int) : Pot 2 P (StI (fun S pos s => LzI P.length (dd P) S pos s) P l) (fun s => sumN (phLz P s) P.length) blLz unLz := by
  refine ⟨fun s i h hc => h.keep i hc (fun S pos hJ => hJ.step i (can_lt hc) (dd_ok hP i _)), ?_, ?_⟩
  · intro s i h hc
    obtain ⟨S, pos, hJ, _⟩ := h.ex
    have hdl : s.deed i < ndl P i := can_iff.1 hc
    have ea : algS 2 s.m (s.hd i) (dd P i (s.deed i)) = lazyS s.m (s.hd i) (dd P i (s.deed i)) := rfl
    obtain ⟨v1, v2, v3, v4, v5, v6⟩ := stp_view hJ.li i (dd P i (s.deed i))
    rw [ea] at v1 v5 v6
    have oth : ∀ j, j ≠ i → ∀ X : Nat, ownLz (stp 2 (dd P i (s.deed i)) s i).m (s.hd j) ≤ ownLz s.m (s.hd j) + X → phLz P (stp 2 (dd P i (s.deed i)) s i) j ≤ phLz P s j + X := by
      intro j hj X hX
      unfold phLz
      rw [(v4 j hj).1, (v4 j hj).2.1]; omega
    rcases lazy_cost hJ i _ rfl (dd_ok hP i _) with ⟨c1, c2⟩ | ⟨c1, c2, c3, c4⟩
    · left
      obtain ⟨w1, w2⟩ := v5 c1
      have h1 : phLz P (stp 2 (dd P i (s.deed i)) s i) i + 98 ≤ phLz P s i := by
        unfold phLz
        rw [w1, w2]
        have e1 : ownLz (stp 2 (dd P i (s.deed i)) s i).m hd0 = 32 := owe_pos (Or.inl rfl)
        rw [e1]
        obtain ⟨k, hk⟩ : ∃ k, ndl P i = s.deed i + 1 + k := ⟨ndl P i - (s.deed i + 1), by omega⟩
        rw [hk, show s.deed i + 1 + k - (s.deed i + 1) = k by omega, show s.deed i + 1 + k - s.deed i = k + 1 by omega]
        omega
      have h2 := (sumN_le (phLz P s) (phLz P (stp 2 (dd P i (s.deed i)) s i)) 30 i 98 h1 P.length (fun j _ hj => oth j hj 30 (by
        have e2 : aLz (stp 2 (dd P i (s.deed i)) s i).m (s.hd j) = aLz s.m (s.hd j) := by
          unfold aLz
          rw [v1]
          by_cases hp : (s.hd j).plc = 1
          · have := ((hJ.hq j).1.2.1 (by omega)).2.1
            rw [c2 _ this]
          · simp only [hp, if_false]
        unfold ownLz; rw [e2]; exact owe_more))).1 (can_lt hc)
      omega
    · obtain ⟨w1, w2, w3, w4⟩ := v6 c1
      have osame : ∀ j, j ≠ i → phLz P (stp 2 (dd P i (s.deed i)) s i) j ≤ phLz P s j + 0 := fun j hj => oth j hj 0 (by
        have e2 : aLz (stp 2 (dd P i (s.deed i)) s i).m (s.hd j) = aLz s.m (s.hd j) := by unfold aLz; rw [v1, c2]
        have e3 : clLz (stp 2 (dd P i (s.deed i)) s i).m (s.hd j) = clLz s.m (s.hd j) := by unfold clLz; rw [v1, c3]
        unfold ownLz; rw [e2, e3]; omega)
      have fin : ∀ X, ownLz (lazyS s.m (s.hd i) (dd P i (s.deed i))).1 (lazyS s.m (s.hd i) (dd P i (s.deed i))).2.1 + X ≤ ownLz s.m (s.hd i) → sumN (phLz P (stp 2 (dd P i (s.deed i)) s i)) P.length + X ≤ sumN (phLz P s) P.length := by
        intro X hX
        have h1 : phLz P (stp 2 (dd P i (s.deed i)) s i) i + X ≤ phLz P s i := by
          unfold phLz
          rw [w1, w2, v1]; omega
        have h2 := (sumN_le (phLz P s) (phLz P (stp 2 (dd P i (s.deed i)) s i)) 0 i X h1 P.length (fun j _ hj => osame j hj)).1 (can_lt hc)
        omega
      rw [v1]
      rcases c4 with c4 | ⟨c5, c6, c7, c4⟩ | ⟨c5, c6, c7, c4⟩
      · exact Or.inl (fin 5 c4)
      · exact Or.inr (Or.inl ⟨c5, c6, c7, fin 1 c4⟩)
      · exact Or.inr (Or.inr ⟨c5, c6, c7, fin 0 c4⟩)
  · intro s i h hc hb
    obtain ⟨S, pos, hJ, _⟩ := h.ex
    have hlt : ∀ j, 3 ≤ (s.hd j).plc → s.m.ky (s.hd j).p < s.m.ky (s.hd j).c ∧ s.m.ky (s.hd j).p ≤ 10 := by
      intro j hj
      obtain ⟨⟨_, q2, _, q4, _⟩, _⟩ := hJ.hq j
      have h1 := q2 (by omega)
      have h2 := q4 (by omega)
      exact ⟨by omega, hJ.mi.kl _ h1.1⟩
    have hx : ∃ j, 3 ≤ (s.hd j).plc := by
      rcases hb with ⟨b1, b2⟩ | ⟨b1, b2⟩
      · obtain ⟨j, _, ho⟩ := hJ.lk.all _ b2
        exact ⟨j, by rcases ho with ho | ho <;> omega⟩
      · exact ⟨i, by omega⟩
    obtain ⟨j, hj⟩ := hx
    obtain ⟨u, u1, u2⟩ := hJ.lk.unkept (by omega) hlt (10 - s.m.ky (s.hd j).p).toNat j hj (by have := (hlt j hj).2; omega)
    refine ⟨u, h.cn u (by omega), ?_⟩
    unfold unLz
    rcases u2 with u2 | u2
    · exact Or.inl u2
    · by_cases h4 : 4 ≤ (s.hd u).plc
      · exact Or.inl h4
      · exact Or.inr ⟨by omega, u2⟩
end Go.Proofs.Ytoihdnekkgpcoaa
namespace Go.Proofs.Ytoihdnekkgpcoaa
set_option linter.unusedVariables false
set_option linter.unusedSimpArgs false

def aLk (m : Mm) (h : Hd) : Nat := if h.plc = 0 then 125 else if h.plc = 1 then 10 * (11 - m.ky h.c).toNat + 10 else 10 * (11 - m.ky h.c).toNat + 5
def unLk (lk : Nat → Bool) (h : Hd) : Prop := 2 ≤ h.plc ∨ (h.plc = 1 ∧ lk h.c = false)
def blLk (lk : Nat → Bool) (h : Hd) : Prop := (h.plc = 0 ∧ lk 0 = true) ∨ (h.plc = 1 ∧ lk h.c = true)
theorem lock_cost {nh : Nat} {D : Nat → Nat → Dd} {S : Nat → Int → Prop} {pos : Nat → Nat → Nat} {s : St} (I : LkJ nh D S pos s) (i : Nat) (d : Dd) (hd : d = D i (s.deed i)) (hk : okD d) : Cost aLk unLk blLk s.m (s.hd i) (lockS s.m (s.hd i) d) := by
  obtain ⟨li, mi, hq, lk, nm⟩ := I
  obtain ⟨q, pg⟩ := hq i
  rw [← hd] at q
  obtain ⟨m, hm⟩ : ∃ m, m = s.m := ⟨_, rfl⟩
  obtain ⟨h, hh⟩ : ∃ h, h = s.hd i := ⟨_, rfl⟩
  rw [← hm, ← hh] at q ⊢
  rw [← hm] at mi lk nm
  obtain ⟨q1, q2⟩ := q
  have quiet : ∀ (m' : Mm) (h' : Hd), m'.ky = m.ky → m'.nx = m.nx → lockS m h d = (m', h', false) →
      (aLk m' h' + 5 ≤ aLk m h ∨ (¬ unLk m.lk h ∧ ¬ blLk m.lk h ∧ m'.lk = m.lk ∧ aLk m' h' + 1 ≤ aLk m h) ∨ (¬ unLk m.lk h ∧ blLk m.lk h ∧ m'.lk = m.lk ∧ aLk m' h' ≤ aLk m h)) → Cost aLk unLk blLk m h (lockS m h d) := by
    intro m' h' e1 e2 er hx
    rw [er]; exact Or.inr ⟨rfl, e1, e2, hx⟩
  have over : ∀ (m' : Mm) (h' : Hd), (∀ x, x < m.n → m'.ky x = m.ky x) → lockS m h d = (m', h', true) → Cost aLk unLk blLk m h (lockS m h d) := by
    intro m' h' e1 er
    rw [er]; exact Or.inl ⟨rfl, e1⟩
  have c3 : h.plc = 0 ∨ h.plc = 1 ∨ h.plc = 2 := by omega
  rcases c3 with e | e | e
  · by_cases hl : m.lk 0 = true
    · exact quiet m h rfl rfl (by unfold lockS; rw [e]; simp only [hl, if_true]) (Or.inr (Or.inr ⟨by unfold unLk; omega, Or.inl ⟨e, hl⟩, rfl, Nat.le_refl _⟩))
    · refine quiet (m.lock 0) (h.again m) rfl rfl (by unfold lockS; rw [e]; simp only [hl, if_false, Bool.false_eq_true]) (Or.inl ?_)
      have h1 := mi.ri 0 mi.pos (by rw [mi.k0]; omega)
      rw [mi.k0] at h1
      have e1 : aLk (m.lock 0) (h.again m) = 10 * (11 - m.ky (m.nx 0)).toNat + 10 := rfl
      have e2 : aLk m h = 125 := by unfold aLk; rw [if_pos e]
      rw [e1, e2]; omega
  · have e2 : aLk m h = 10 * (11 - m.ky h.c).toNat + 10 := by unfold aLk; simp [e]
    by_cases hl : m.lk h.c = true
    · refine quiet m h rfl rfl (by unfold lockS; rw [e]; simp only [hl, if_true]) (Or.inr (Or.inr ⟨?_, Or.inr ⟨e, hl⟩, rfl, Nat.le_refl _⟩))
      unfold unLk; rw [hl]; simp; omega
    · refine quiet (m.lock h.c) { h with plc := 2 } rfl rfl (by unfold lockS; rw [e]; simp only [hl, if_false, Bool.false_eq_true]) (Or.inl ?_)
      have e1 : aLk (m.lock h.c) { h with plc := 2 } = 10 * (11 - m.ky h.c).toNat + 5 := rfl
      rw [e1, e2]; exact Nat.le_refl _
  · obtain ⟨p1, p2, p3, p4, p5⟩ := q2 (by omega)
    by_cases h1 : m.ky h.c < d.key
    · refine quiet (m.free1 h.p) { h.on m with plc := 1 } rfl rfl (by unfold lockS; rw [e]; simp only [h1, if_true]) (Or.inl ?_)
      have e1 : aLk (m.free1 h.p) { h.on m with plc := 1 } = 10 * (11 - m.ky (m.nx h.c)).toNat + 10 := rfl
      have e2 : aLk m h = 10 * (11 - m.ky h.c).toNat + 5 := by unfold aLk; simp [e]
      have h2 := mi.ri h.c p2 (by have := hk.2.1; omega)
      have h3 := mi.kl _ (mi.nl h.c p2)
      rw [e1, e2]; omega
    · by_cases hke : m.ky h.c = d.key
      · have hlt : ¬ d.key < d.key := by omega
        by_cases hk1 : d.kind = 1
        · exact over (m.free h.p h.c) { h with is := false } (fun _ _ => rfl) (by unfold lockS; rw [e]; simp only [h1, hk1, hke, hlt, if_true, if_false])
        · by_cases hk2 : d.kind = 2
          · exact over (((m.free h.p h.c).mark h.c).drop h.p h.c) { h with is := true } (fun _ _ => rfl) (by unfold lockS; rw [e]; simp [h1, hk1, hke, hk2, hlt])
          · exact over (m.free h.p h.c) { h with is := true } (fun _ _ => rfl) (by unfold lockS; rw [e]; simp [h1, hk1, hke, hk2, hlt])
      · by_cases hk1 : d.kind = 1
        · exact over ((m.free h.p h.c).ins h.p h.c d.key) { h with is := true } (fun x hx => up_ne _ _ (show x ≠ m.n by omega)) (by unfold lockS; rw [e]; simp only [h1, hk1, hke, if_true, if_false])
        · exact over (m.free h.p h.c) { h with is := false } (fun _ _ => rfl) (by unfold lockS; rw [e]; simp only [h1, hk1, hke, if_false])
def phLk (P : List (List Dd)) (s : St) (i : Nat) : Nat := 130 * (ndl P i - s.deed i) + aLk s.m (s.hd i)
theorem lockPot {P : List (List Dd)} (hP : ∀ l ∈ P, ∀ d ∈ l, okD d) (l : List Int) : Pot 1 P (StI (fun S pos s => LkJ P.length (dd P) S pos s) P l) (fun s => sumN (phLk P s) P.length) blLk unLk := by
  refine ⟨fun s i h hc => h.keep i hc (fun S pos hJ => hJ.step i (can_lt hc) (dd_ok hP i _)), ?_, ?_⟩
  · intro s i h hc
    obtain ⟨S, pos, hJ, _⟩ := h.ex
    have hdl : s.deed i < ndl P i := can_iff.1 hc
    have ea : algS 1 s.m (s.hd i) (dd P i (s.deed i)) = lockS s.m (s.hd i) (dd P i (s.deed i)) := rfl
    obtain ⟨v1, v2, v3, v4, v5, v6⟩ := stp_view hJ.li i (dd P i (s.deed i))
    rw [ea] at v1 v5 v6
    have oth : ∀ j, j ≠ i → (∀ x, x < s.m.n → (stp 1 (dd P i (s.deed i)) s i).m.ky x = s.m.ky x) → phLk P (stp 1 (dd P i (s.deed i)) s i) j ≤ phLk P s j + 0 := by
      intro j hj hX
      unfold phLk
      rw [(v4 j hj).1, (v4 j hj).2.1]
      have e2 : aLk (stp 1 (dd P i (s.deed i)) s i).m (s.hd j) = aLk s.m (s.hd j) := by
        unfold aLk
        by_cases hp : (s.hd j).plc = 0
        · simp [hp]
        · have := ((hJ.hq j).1.2 hp).2.1
          rw [hX _ this]
      rw [e2]; omega
    rcases lock_cost hJ i _ rfl (dd_ok hP i _) with ⟨c1, c2⟩ | ⟨c1, c2, c3, c4⟩
    · left
      obtain ⟨w1, w2⟩ := v5 c1
      have h1 : phLk P (stp 1 (dd P i (s.deed i)) s i) i + 5 ≤ phLk P s i := by
        unfold phLk
        rw [w1, w2]
        have e1 : aLk (stp 1 (dd P i (s.deed i)) s i).m hd0 = 125 := rfl
        rw [e1]
        obtain ⟨k, hk⟩ : ∃ k, ndl P i = s.deed i + 1 + k := ⟨ndl P i - (s.deed i + 1), by omega⟩
        rw [hk, show s.deed i + 1 + k - (s.deed i + 1) = k by omega, show s.deed i + 1 + k - s.deed i = k + 1 by omega]
        omega
      have h2 := (sumN_le (phLk P s) (phLk P (stp 1 (dd P i (s.deed i)) s i)) 0 i 5 h1 P.length (fun j _ hj => oth j hj (by rw [v1]; exact c2))).1 (can_lt hc)
      omega
    · obtain ⟨w1, w2, w3, w4⟩ := v6 c1
      have fin : ∀ X, aLk (lockS s.m (s.hd i) (dd P i (s.deed i))).1 (lockS s.m (s.hd i) (dd P i (s.deed i))).2.1 + X ≤ aLk s.m (s.hd i) → sumN (phLk P (stp 1 (dd P i (s.deed i)) s i)) P.length + X ≤ sumN (phLk P s) P.length := by
        intro X hX
        have h1 : phLk P (stp 1 (dd P i (s.deed i)) s i) i + X ≤ phLk P s i := by
          unfold phLk
          rw [w1, w2, v1]; omega
        have h2 := (sumN_le (phLk P s) (phLk P (stp 1 (dd P i (s.deed i)) s i)) 0 i X h1 P.length (fun j _ hj => oth j hj (by rw [v1, c2]; exact fun _ _ => rfl))).1 (can_lt hc)
        omega
      rw [v1]
      rcases c4 with c4 | ⟨c5, c6, c7, c4⟩ | ⟨c5, c6, c7, c4⟩
      · exact Or.inl (fin 5 c4)
      · exact Or.inr (Or.inl ⟨c5, c6, c7, fin 1 c4⟩)
      · exact Or.inr (Or.inr ⟨c5, c6, c7, fin 0 c4⟩)
  · intro s i h hc hb
    obtain ⟨S, pos, hJ, _⟩ := h.ex
    have hlt : ∀ j, 1 ≤ (s.hd j).plc → s.m.ky (s.hd j).p < s.m.ky (s.hd j).c ∧ s.m.ky (s.hd j).p ≤ 10 := by
      intro j hj
      obtain ⟨⟨_, q2⟩, _⟩ := hJ.hq j
      obtain ⟨k1, k2, k3, k4, k5⟩ := q2 (by omega)
      have := (dd_ok hP j (s.deed j)).2.1
      have h2 := hJ.mi.ri _ k1 (by omega)
      rw [k5] at h2
      exact ⟨h2, by omega⟩
    have hx : ∃ j, 1 ≤ (s.hd j).plc := by
      rcases hb with ⟨b1, b2⟩ | ⟨b1, b2⟩
      · obtain ⟨j, _, ho⟩ := hJ.lk.all _ b2
        exact ⟨j, by rcases ho with ho | ho <;> omega⟩
      · exact ⟨i, by omega⟩
    obtain ⟨j, hj⟩ := hx
    obtain ⟨u, u1, u2⟩ := hJ.lk.unkept (by omega) hlt (10 - s.m.ky (s.hd j).p).toNat j hj (by have := (hlt j hj).2; omega)
    refine ⟨u, h.cn u (by omega), ?_⟩
    unfold unLk
    rcases u2 with u2 | u2
    · exact Or.inl u2
    · by_cases h4 : 2 ≤ (s.hd u).plc
      · exact Or.inl h4
      · exact Or.inr ⟨by omega, u2⟩

-- those that mark
def aMk (m : Mm) (h : Hd) : Nat := if h.plc = 0 then 14 else if h.plc = 1 then 2 + (11 - m.ky h.c).toNat else if h.plc = 2 then 2 else 1
def clMk (m : Mm) (h : Hd) (d : Dd) : Prop := h.plc = 0 ∨ h.plc = 3 ∨ d.kind = 3 ∨ (m.mr h.p = false ∧ m.nx h.p = h.c ∧ (h.plc = 2 → d.kind = 2 → m.mr h.c = false))
noncomputable def ownMk (m : Mm) (h : Hd) (d : Dd) : Nat := owe (aMk m h) (clMk m h d) 15
/-- How many with a mark are on the way. -/
noncomputable def mkd (m : Mm) : Nat := sumN (fun x => owe 0 (¬ (m.mr x = true ∧ Rc m.nx 0 x)) 1) m.n
theorem sumN_one (f g : Nat → Nat) (c : Nat) (hc : g c ≤ f c + 1) : ∀ n, (∀ j, j < n → j ≠ c → g j ≤ f j) → sumN g n ≤ sumN f n + 1 ∧ (n ≤ c → sumN g n ≤ sumN f n) := by
  intro n
  induction n with
  | zero => intro _; exact ⟨Nat.zero_le _, fun _ => Nat.le_refl _⟩
  | succ n ih =>
    intro h
    obtain ⟨a, b⟩ := ih (fun j h1 h2 => h j (by omega) h2)
    constructor
    · show sumN g n + g n ≤ sumN f n + f n + 1
      by_cases e : n = c
      · subst e
        have := b (Nat.le_refl _)
        omega
      · have := h n (by omega) e
        omega
    · intro hn
      have h1 := b (by omega)
      have h2 := h n (by omega) (by omega)
      show sumN g n + g n ≤ sumN f n + f n
      omega
theorem sumN_mono (f g : Nat → Nat) : ∀ n, (∀ j, j < n → g j ≤ f j) → sumN g n ≤ sumN f n := by
  intro n
  induction n with
  | zero => intro _; exact Nat.le_refl _
  | succ n ih =>
    intro h
    have h1 := ih (fun j hj => h j (by omega))
    have h2 := h n (by omega)
    show sumN g n + g n ≤ sumN f n + f n
    omega
theorem owe0_le {c c' : Prop} (h : c → c') : owe 0 c' 1 ≤ owe 0 c 1 := owe_le (X := 0) h (Nat.le_refl _)
theorem mkd_ins {m : Mm} (h : MI m) {p c : Nat} {k : Int} (hp : p < m.n) (hn : m.nx p = c) : mkd (m.ins p c k) ≤ mkd m := by
  unfold mkd
  show sumN _ m.n + owe 0 _ 1 ≤ _
  have h1 : owe 0 (¬ ((m.ins p c k).mr m.n = true ∧ Rc (m.ins p c k).nx 0 m.n)) 1 = 0 := by
    refine owe_pos ?_
    intro hx
    have := hx.1
    simp [Mm.ins, up] at this
  rw [h1]
  refine sumN_mono _ _ _ (fun x hx => owe0_le ?_)
  intro hc hc'
  refine hc ⟨?_, (Rc.ins_back h hp hn hc'.2 hx).1 h.pos⟩
  have := hc'.1
  simp only [Mm.ins, up, show x ≠ m.n by omega, if_false] at this
  exact this
theorem mkd_mark (m : Mm) (c : Nat) : mkd (m.mark c) ≤ mkd m + 1 := by
  unfold mkd
  refine (sumN_one _ _ c ?_ m.n (fun x hx hxc => owe0_le ?_)).1
  · have := @owe_max 0 1 (¬ ((m.mark c).mr c = true ∧ Rc (m.mark c).nx 0 c))
    omega
  · intro hc hc'
    refine hc ⟨?_, hc'.2⟩
    have := hc'.1
    simp only [Mm.mark, up, hxc, if_false] at this
    exact this
theorem mkd_drop {m : Mm} (h : MI m) {p c : Nat} (hp : p < m.n) (hn : m.nx p = c) (hpk : m.ky p ≠ 10) (mp : m.mr p = false) (mc : m.mr c = true) : mkd (m.drop p c) + 1 ≤ mkd m := by
  unfold mkd
  have hc : c < m.n := by rw [← hn]; exact h.nl p hp
  have h1 := (sumN_le (fun x => owe 0 (¬ (m.mr x = true ∧ Rc m.nx 0 x)) 1) (fun x => owe 0 (¬ ((m.drop p c).mr x = true ∧ Rc (m.drop p c).nx 0 x)) 1) 0 c 1 ?_ m.n (fun x hx hxc => ?_)).1 hc
  · rw [Nat.zero_mul, Nat.add_zero] at h1; exact h1
  · refine owe_late ?_ ?_ (Nat.le_refl _)
    · intro hx
      exact hx ⟨mc, (h.rc p hp mp).trans (.step _ _ (by rw [hn]; exact .refl _))⟩
    · intro hx
      exact h.gone hp hn hpk mp mc hx.2
  · exact owe0_le (fun hc2 hc' => hc2 ⟨hc'.1, Rc.drop_back hn hc'.2⟩)
/-- What a step of one that marks costs. -/
def CostM (m : Mm) (h : Hd) (d : Dd) (r : Mm × Hd × Bool) : Prop :=
  (r.2.2 = true ∧ (∀ x, x < m.n → r.1.ky x = m.ky x) ∧ mkd r.1 ≤ mkd m) ∨
  (r.2.2 = false ∧ r.1.ky = m.ky ∧ ownMk r.1 r.2.1 d + 1 ≤ ownMk m h d ∧ h.plc ≠ 3 ∧
    ((r.1 = m ∧ r.2.1.plc ≠ 3) ∨ (mkd r.1 ≤ mkd m + 1 ∧ r.2.1.plc = 3) ∨ (mkd r.1 + 1 ≤ mkd m ∧ r.2.1.plc ≠ 3)))
theorem mark_cost {nh : Nat} {D : Nat → Nat → Dd} {S : Nat → Int → Prop} {pos : Nat → Nat → Nat} {s : St} (I : MkI nh D S pos s) (i : Nat) (d : Dd) (hd : d = D i (s.deed i)) (hk : okD d) : CostM s.m (s.hd i) d (markS false s.m (s.hd i) d) := by
  obtain ⟨li, mi, hq⟩ := I
  obtain ⟨q, pg⟩ := hq i
  rw [← hd] at q
  obtain ⟨m, hm⟩ : ∃ m, m = s.m := ⟨_, rfl⟩
  obtain ⟨h, hh⟩ : ∃ h, h = s.hd i := ⟨_, rfl⟩
  rw [← hm, ← hh] at q ⊢
  rw [← hm] at mi
  obtain ⟨q1, q2, q3, q4, q5⟩ := q
  have quiet : ∀ (h' : Hd), markS false m h d = (m, h', false) → h.plc ≠ 3 → h'.plc ≠ 3 → ownMk m h' d + 1 ≤ ownMk m h d → CostM m h d (markS false m h d) := by
    intro h' er n1 n2 hx
    rw [er]; exact Or.inr ⟨rfl, rfl, hx, n1, Or.inl ⟨rfl, n2⟩⟩
  have over : ∀ (m' : Mm) (h' : Hd), (∀ x, x < m.n → m'.ky x = m.ky x) → mkd m' ≤ mkd m → markS false m h d = (m', h', true) → CostM m h d (markS false m h d) := by
    intro m' h' e1 e2 er
    rw [er]; exact Or.inl ⟨rfl, e1, e2⟩
  have c4 : h.plc = 0 ∨ h.plc = 1 ∨ h.plc = 2 ∨ h.plc = 3 := by omega
  have a0 : ∀ h' : Hd, h'.plc = 0 → aMk m h' = 14 := by intro h' e; unfold aMk; rw [if_pos e]
  rcases c4 with e | e | e | e
  · refine quiet (h.again m) (by unfold markS; rw [e]; rfl) (by omega) (by simp [Hd.again]) (owe_le (fun _ => ?_) ?_)
    · exact Or.inr (Or.inr (Or.inr ⟨mi.mr0, rfl, fun e2 => absurd e2 (by simp [Hd.again])⟩))
    · have h1 := mi.ri 0 mi.pos (by rw [mi.k0]; omega)
      rw [mi.k0] at h1
      have e1 : aMk m (h.again m) = 2 + (11 - m.ky (m.nx 0)).toNat := rfl
      rw [e1, a0 h e]; omega
  · obtain ⟨p1, p2, p3⟩ := q2 (by omega)
    have ha : aMk m h = 2 + (11 - m.ky h.c).toNat := by unfold aMk; simp [e]
    have kc := mi.kl h.c p2
    by_cases h0 : m.mr h.c = true ∧ d.kind ≠ 3
    · have b0 : (m.mr h.c && d.kind != 3) = true := by simp [h0.1, h0.2]
      have hck := mi.md h.c p2 h0.1
      by_cases hc : clean m h = true
      · obtain ⟨mp, hn⟩ := clean_iff.1 hc
        have hpk : m.ky h.p ≠ 10 := by have := hk.2.1; omega
        have er : markS false m h d = (m.drop h.p h.c, { h with c := m.nx h.c }, false) := by unfold markS; rw [e]; simp only [b0, hc, if_true]
        rw [er]
        refine Or.inr ⟨rfl, rfl, owe_le (fun _ => ?_) ?_, by omega, Or.inr (Or.inr ⟨mkd_drop mi p1 hn hpk mp h0.1, by show h.plc ≠ 3; omega⟩)⟩
        · refine Or.inr (Or.inr (Or.inr ⟨mp, ?_, fun e2 => absurd e2 (by show h.plc ≠ 2; omega)⟩))
          show up m.nx h.p (m.nx h.c) h.p = m.nx h.c; rw [up_same]
        · have e1 : aMk (m.drop h.p h.c) { h with c := m.nx h.c } = 2 + (11 - m.ky (m.nx h.c)).toNat := by unfold aMk; simp [e]; rfl
          have h2 := mi.ri h.c p2 (by omega)
          have h3 := mi.kl _ (mi.nl h.c p2)
          rw [e1, ha]; omega
      · refine quiet { h with plc := 0 } (by unfold markS; rw [e]; simp only [b0, hc, if_true, Bool.false_eq_true, if_false]) (by omega) (by simp) (owe_late ?_ (Or.inl rfl) ?_)
        · rintro (hx | hx | hx | ⟨hx1, hx2, _⟩)
          · omega
          · omega
          · exact h0.2 hx
          · exact hc (clean_iff.2 ⟨hx1, hx2⟩)
        · rw [a0 _ rfl, ha]; omega
    · have b0 : (m.mr h.c && d.kind != 3) = false := by
        cases a : m.mr h.c with
        | false => rfl
        | true => simp only [Bool.true_and, bne_eq_false_iff_eq]; exact Classical.byContradiction (fun hx => h0 ⟨a, hx⟩)
      by_cases h1 : m.ky h.c < d.key
      · refine quiet (h.on m) (by unfold markS; rw [e]; simp only [b0, h1, if_true, Bool.false_eq_true, if_false]) (by omega) (by simp [Hd.on, e]) (owe_le (fun _ => ?_) ?_)
        · by_cases h3 : d.kind = 3
          · exact Or.inr (Or.inr (Or.inl h3))
          · refine Or.inr (Or.inr (Or.inr ⟨?_, rfl, fun e2 => absurd e2 (by simp [Hd.on, e])⟩))
            show m.mr h.c = false
            cases a : m.mr h.c with
            | false => rfl
            | true => exact absurd ⟨a, h3⟩ h0
        · have e1 : aMk m (h.on m) = 2 + (11 - m.ky (m.nx h.c)).toNat := by unfold aMk Hd.on; simp [e]
          have h2 := mi.ri h.c p2 (by have := hk.2.1; omega)
          have h3 := mi.kl _ (mi.nl h.c p2)
          rw [e1, ha]; omega
      · by_cases h3 : d.kind = 3
        · exact over m { h with is := decide (m.ky h.c = d.key) && !m.mr h.c } (fun _ _ => rfl) (Nat.le_refl _) (by unfold markS; rw [e]; simp [h1, h3])
        · have mc : m.mr h.c = false := by
            cases a : m.mr h.c with
            | false => rfl
            | true => exact absurd ⟨a, h3⟩ h0
          by_cases h4 : decide (m.ky h.c = d.key) = decide (d.kind = 1)
          · exact over m { h with is := false } (fun _ _ => rfl) (Nat.le_refl _) (by unfold markS; rw [e]; simp only [b0, h1, h3, h4, if_true, Bool.false_eq_true, if_false])
          · refine quiet { h with plc := 2 } (by unfold markS; rw [e]; simp only [b0, h1, h3, h4, Bool.false_eq_true, if_false]) (by omega) (by simp) (owe_le ?_ ?_)
            · rintro (hx | hx | hx | ⟨hx1, hx2, _⟩)
              · omega
              · omega
              · exact absurd hx h3
              · exact Or.inr (Or.inr (Or.inr ⟨hx1, hx2, fun _ _ => mc⟩))
            · have e1 : aMk m { h with plc := 2 } = 2 := rfl
              rw [e1, ha]; omega
  · obtain ⟨p1, p2, p3⟩ := q2 (by omega)
    obtain ⟨k1, k2, k3⟩ := q4 e
    have ha : aMk m h = 2 := by unfold aMk; simp [e]
    by_cases hk1 : d.kind = 1
    · by_cases hc : clean m h = true
      · obtain ⟨mp, hn⟩ := clean_iff.1 hc
        exact over (m.ins h.p h.c d.key) { h with is := true } (fun x hx => up_ne _ _ (show x ≠ m.n by omega)) (mkd_ins mi p1 hn) (by unfold markS; rw [e]; simp only [hk1, hc, Bool.false_or, if_true])
      · refine quiet { h with plc := 0 } (by unfold markS; rw [e]; simp only [hk1, hc, Bool.false_or, if_true, Bool.false_eq_true, if_false]) (by omega) (by simp) (owe_late ?_ (Or.inl rfl) ?_)
        · rintro (hx | hx | hx | ⟨hx1, hx2, _⟩)
          · omega
          · omega
          · exact k1 hx
          · exact hc (clean_iff.2 ⟨hx1, hx2⟩)
        · rw [a0 _ rfl, ha]; omega
    · have hk2 : d.kind = 2 := by have := hk.2.2; omega
      by_cases mc : m.mr h.c = true
      · refine quiet { h with plc := 0 } (by unfold markS; rw [e]; simp only [hk1, mc, if_true, Bool.false_eq_true, if_false]) (by omega) (by simp) (owe_late ?_ (Or.inl rfl) ?_)
        · rintro (hx | hx | hx | ⟨hx1, hx2, hx3⟩)
          · omega
          · omega
          · exact k1 hx
          · rw [hx3 e hk2] at mc; exact absurd mc (by decide)
        · rw [a0 _ rfl, ha]; omega
      · have mc : m.mr h.c = false := by simpa using mc
        have er : markS false m h d = (m.mark h.c, { h with plc := 3, is := true }, false) := by unfold markS; rw [e]; simp only [hk1, mc, Bool.false_eq_true, if_false]
        rw [er]
        refine Or.inr ⟨rfl, rfl, owe_le (fun _ => Or.inr (Or.inl rfl)) ?_, by omega, Or.inr (Or.inl ⟨mkd_mark m h.c, rfl⟩)⟩
        rw [ha]; exact Nat.le_refl 2
  · obtain ⟨p1, p2, p3⟩ := q2 (by omega)
    obtain ⟨w1, w2, w3, w4⟩ := q5 e
    have hpk : m.ky h.p ≠ 10 := by have := hk.2.1; omega
    by_cases hc : clean m h = true
    · obtain ⟨mp, hn⟩ := clean_iff.1 hc
      exact over (m.drop h.p h.c) h (fun _ _ => rfl) (by have := mkd_drop mi p1 hn hpk mp w4; omega) (by unfold markS; rw [e]; show (if _ then _ else _, _, _) = _; rw [if_pos hc])
    · exact over m h (fun _ _ => rfl) (Nat.le_refl _) (by unfold markS; rw [e]; show (if _ then _ else _, _, _) = _; rw [if_neg hc])
noncomputable def phMk (P : List (List Dd)) (s : St) (i : Nat) : Nat := 150 * (ndl P i - s.deed i) + ownMk s.m (s.hd i) (dd P i (s.deed i)) + if (s.hd i).plc = 3 then 0 else 90
/-- A hand's own cost. -/
noncomputable def phM1 (P : List (List Dd)) (s : St) (i : Nat) : Nat := 30 * (ndl P i - s.deed i) + ownMk s.m (s.hd i) (dd P i (s.deed i))
theorem mark_nolk {m : Mm} (h : Hd) (d : Dd) (hl : ∀ x, m.lk x = false) : ∀ x, (markS false m h d).1.lk x = false := by
  intro x
  unfold markS
  split <;> (repeat' split) <;> first | exact hl x | (show up m.lk m.n false x = false; unfold up; split <;> simp [hl])
theorem markPot {P : List (List Dd)} (hP : ∀ l ∈ P, ∀ d ∈ l, okD d) (hl : P.length ≤ 4) (l : List Int) : Pot 3 P (StI (fun S pos s => MkI P.length (dd P) S pos s ∧ ∀ x, s.m.lk x = false) P l) (fun s => sumN (phMk P s) P.length + 45 * mkd s.m) (fun _ _ => False) (fun _ _ => False) := by
  have mm : ∀ s i d, (stp 3 d s i).m = (markS false s.m (s.hd i) d).1 := by
    intro s i d
    unfold stp; simp only []
    split <;> rfl
  refine ⟨fun s i h hc => h.keep i hc (fun S pos hJ => ?_), ?_, fun s i h hc hb => absurd hb id⟩
  · obtain ⟨S', pos', a, b⟩ := hJ.1.step i (can_lt hc) (dd_ok hP i _)
    exact ⟨S', pos', ⟨a, by rw [mm]; exact mark_nolk _ _ hJ.2⟩, b⟩
  · intro s i h hc
    obtain ⟨S, pos, ⟨hJ, hlk⟩, _⟩ := h.ex
    have hdl : s.deed i < ndl P i := can_iff.1 hc
    have ea : algS 3 s.m (s.hd i) (dd P i (s.deed i)) = markS false s.m (s.hd i) (dd P i (s.deed i)) := rfl
    obtain ⟨v1, v2, v3, v4, v5, v6⟩ := stp_view hJ.li i (dd P i (s.deed i))
    rw [ea] at v1 v5 v6
    refine Or.inr (Or.inl ⟨id, id, ?_, ?_⟩)
    · funext x; rw [v1, mark_nolk _ _ hlk, hlk]
    · have oth : ∀ j, j ≠ i → (∀ x, x < s.m.n → (stp 3 (dd P i (s.deed i)) s i).m.ky x = s.m.ky x) → phMk P (stp 3 (dd P i (s.deed i)) s i) j ≤ phMk P s j + 15 := by
        intro j hj hX
        unfold phMk
        rw [(v4 j hj).1, (v4 j hj).2.1]
        have e2 : aMk (stp 3 (dd P i (s.deed i)) s i).m (s.hd j) = aMk s.m (s.hd j) := by
          unfold aMk
          by_cases hp : (s.hd j).plc = 0
          · simp [hp]
          · have := ((hJ.hq j).1.2.1 hp).2.1
            rw [hX _ this]
        have e3 : ownMk (stp 3 (dd P i (s.deed i)) s i).m (s.hd j) (dd P j (s.deed j)) ≤ ownMk s.m (s.hd j) (dd P j (s.deed j)) + 15 := by
          unfold ownMk; rw [e2]; exact owe_more
        omega
      rcases mark_cost hJ i _ rfl (dd_ok hP i _) with ⟨c1, c2, c3⟩ | ⟨c1, c2, c3, c4, c5⟩
      · obtain ⟨w1, w2⟩ := v5 c1
        have h1 : phMk P (stp 3 (dd P i (s.deed i)) s i) i + 46 ≤ phMk P s i := by
          unfold phMk
          rw [w1, w2]
          have e1 : ownMk (stp 3 (dd P i (s.deed i)) s i).m hd0 (dd P i (s.deed i + 1)) = 14 := owe_pos (Or.inl rfl)
          have e2 : (if hd0.plc = 3 then 0 else 90) = 90 := rfl
          rw [e1, e2]
          obtain ⟨k, hk⟩ : ∃ k, ndl P i = s.deed i + 1 + k := ⟨ndl P i - (s.deed i + 1), by omega⟩
          rw [hk, show s.deed i + 1 + k - (s.deed i + 1) = k by omega, show s.deed i + 1 + k - s.deed i = k + 1 by omega]
          omega
        have h2 := (sumN_le (phMk P s) (phMk P (stp 3 (dd P i (s.deed i)) s i)) 15 i 46 h1 P.length (fun j _ hj => oth j hj (by rw [v1]; exact c2))).1 (can_lt hc)
        rw [v1]
        omega
      · obtain ⟨w1, w2, w3, w4⟩ := v6 c1
        rw [← v1] at c2 c3 c5
        have hph : phMk P (stp 3 (dd P i (s.deed i)) s i) i = 150 * (ndl P i - s.deed i) + ownMk (stp 3 (dd P i (s.deed i)) s i).m (markS false s.m (s.hd i) (dd P i (s.deed i))).2.1 (dd P i (s.deed i)) + if (markS false s.m (s.hd i) (dd P i (s.deed i))).2.1.plc = 3 then 0 else 90 := by
          unfold phMk; rw [w1, w2]
        have hp0 : phMk P s i = 150 * (ndl P i - s.deed i) + ownMk s.m (s.hd i) (dd P i (s.deed i)) + 90 := by
          unfold phMk; rw [if_neg c4]
        rcases c5 with ⟨c5, c6⟩ | ⟨c5, c6⟩ | ⟨c5, c6⟩
        · rw [if_neg c6] at hph
          have h2 := (sumN_le (phMk P s) (phMk P (stp 3 (dd P i (s.deed i)) s i)) 0 i 1 (by omega) P.length (fun j _ hj => by
            unfold phMk; rw [(v4 j hj).1, (v4 j hj).2.1, c5]; omega)).1 (can_lt hc)
          rw [c5]; omega
        · rw [if_pos c6] at hph
          have h2 := (sumN_le (phMk P s) (phMk P (stp 3 (dd P i (s.deed i)) s i)) 15 i 91 (by omega) P.length (fun j _ hj => oth j hj (by rw [c2]; exact fun _ _ => rfl))).1 (can_lt hc)
          omega
        · rw [if_neg c6] at hph
          have h2 := (sumN_le (phMk P s) (phMk P (stp 3 (dd P i (s.deed i)) s i)) 15 i 1 (by omega) P.length (fun j _ hj => oth j hj (by rw [c2]; exact fun _ _ => rfl))).1 (can_lt hc)
          omega
/-- Alone each step costs something. -/
theorem mark_solo {P : List (List Dd)} (hP : ∀ l ∈ P, ∀ d ∈ l, okD d) {S : Nat → Int → Prop} {pos : Nat → Nat → Nat} {s : St} (hJ : MkI P.length (dd P) S pos s) (i : Nat) (hc : can P s i = true) : phM1 P (stp 3 (dd P i (s.deed i)) s i) i + 1 ≤ phM1 P s i := by
  have hdl : s.deed i < ndl P i := can_iff.1 hc
  have ea : algS 3 s.m (s.hd i) (dd P i (s.deed i)) = markS false s.m (s.hd i) (dd P i (s.deed i)) := rfl
  obtain ⟨v1, v2, v3, v4, v5, v6⟩ := stp_view hJ.li i (dd P i (s.deed i))
  rw [ea] at v1 v5 v6
  rcases mark_cost hJ i _ rfl (dd_ok hP i _) with ⟨c1, c2, c3⟩ | ⟨c1, c2, c3, c4, c5⟩
  · obtain ⟨w1, w2⟩ := v5 c1
    unfold phM1
    rw [w1, w2]
    have e1 : ownMk (stp 3 (dd P i (s.deed i)) s i).m hd0 (dd P i (s.deed i + 1)) = 14 := owe_pos (Or.inl rfl)
    rw [e1]
    obtain ⟨k, hk⟩ : ∃ k, ndl P i = s.deed i + 1 + k := ⟨ndl P i - (s.deed i + 1), by omega⟩
    rw [hk, show s.deed i + 1 + k - (s.deed i + 1) = k by omega, show s.deed i + 1 + k - s.deed i = k + 1 by omega]
    omega
  · obtain ⟨w1, w2, w3, w4⟩ := v6 c1
    unfold phM1
    rw [w1, w2, v1]; omega
end Go.Proofs.Ytoihdnekkgpcoaa
namespace Go.Proofs.Ytoihdnekkgpcoaa
set_option linter.unusedVariables false
set_option linter.unusedSimpArgs false

/-- What is handed in is within the limits. -/
structure OkIn (l : List Int) (P : List (List Dd)) : Prop where
  keys : ∀ x ∈ l, 0 ≤ x ∧ x ≤ 9
  sort : l.Pairwise (· < ·)
  len : P.length ≤ 4
  len2 : ∀ x ∈ P, x.length ≤ 4
  deeds : ∀ x ∈ P, ∀ d ∈ x, okD d
variable {l : List Int} {P : List (List Dd)}
theorem OkIn.ndl (h : OkIn l P) (i : Nat) : ndl P i ≤ 4 := by
  unfold Go.Proofs.Ytoihdnekkgpcoaa.ndl
  cases e : P[i]? with
  | none => simp
  | some x => exact h.len2 x (List.mem_of_getElem? e)
theorem li0 (alg nh : Nat) (D : Nat → Nat → Dd) (l : List Int) : LI alg nh D (fun _ x => InS (mm0 l) x) (fun _ _ => 0) (st0 l) := by
  have np : ∀ i, ¬ pd alg ((st0 l).hd i) := by intro i; unfold pd st0 hd0; simp
  have na : ∀ i e, ¬ asg alg (st0 l) i e := by
    rintro i e (h | ⟨_, h⟩)
    · exact absurd h (Nat.not_lt_zero _)
    · exact np i h
  exact ⟨fun x => Iff.rfl, fun i => ⟨Nat.zero_le _, Nat.zero_le _⟩, fun i e r h => absurd h (Nat.not_lt_zero _), fun i r h => by simp [st0] at h, fun i h => absurd h (np i), fun t h => absurd h (Nat.not_lt_zero _), fun t i e i' e' h => absurd h (na i e), fun i e h => absurd h (na i e)⟩
theorem st0_ex {J : (Nat → Int → Prop) → (Nat → Nat → Nat) → St → Prop} (h : J (fun _ x => InS (mm0 l) x) (fun _ _ => 0) (st0 l)) : StI J P l (st0 l) :=
  ⟨⟨_, _, h, fun x => Iff.rfl⟩, fun i e => absurd rfl e, fun i => Nat.zero_le _, fun i => ⟨Nat.zero_le _, Nat.zero_le _⟩, fun i e => absurd e (by simp [st0])⟩
theorem lz0 (h : OkIn l P) : LzI P.length (dd P) (fun _ x => InS (mm0 l) x) (fun _ _ => 0) (st0 l) := by
  refine ⟨li0 _ _ _ l, mm0_MI l h.keys h.sort, fun j => ⟨?_, fun e => absurd rfl e⟩, ⟨?_, ?_, ?_⟩, ?_⟩
  · exact ⟨Nat.zero_le _, fun e => absurd rfl e, fun e => absurd e (by simp [st0, hd0]), fun e => absurd e (by simp [st0, hd0]), fun e => absurd e (by simp [st0, hd0])⟩
  · intro i j x ho; exact absurd ho (ow0 3 4 _ (by simp [st0, hd0]) (by simp [st0, hd0]) x)
  · intro i x ho; exact absurd ho (ow0 3 4 _ (by simp [st0, hd0]) (by simp [st0, hd0]) x)
  · intro x hx; exact absurd hx (by simp [st0, mm0])
  · intro x _ hx; exact absurd hx (by simp [st0, mm0])
theorem lk0 (h : OkIn l P) : LkJ P.length (dd P) (fun _ x => InS (mm0 l) x) (fun _ _ => 0) (st0 l) := by
  refine ⟨li0 _ _ _ l, mm0_MI l h.keys h.sort, fun j => ⟨⟨Nat.zero_le _, fun e => absurd rfl e⟩, fun e => absurd rfl e⟩, ⟨?_, ?_, ?_⟩, fun x _ _ => rfl⟩
  · intro i j x ho; exact absurd ho (ow0 1 2 _ (by simp [st0, hd0]) (by simp [st0, hd0]) x)
  · intro i x ho; exact absurd ho (ow0 1 2 _ (by simp [st0, hd0]) (by simp [st0, hd0]) x)
  · intro x hx; exact absurd hx (by simp [st0, mm0])
theorem mk0 (h : OkIn l P) : MkI P.length (dd P) (fun _ x => InS (mm0 l) x) (fun _ _ => 0) (st0 l) ∧ ∀ x, (st0 l).m.lk x = false := by
  refine ⟨⟨li0 _ _ _ l, mm0_MI l h.keys h.sort, fun j => ⟨?_, fun e => absurd rfl e⟩⟩, fun x => rfl⟩
  exact ⟨Nat.zero_le _, fun e => absurd rfl e, fun e => absurd e (by simp [st0, hd0]), fun e => absurd e (by simp [st0, hd0]), fun e => absurd e (by simp [st0, hd0])⟩
/-- All deeds are done, and there is an order of them. -/
def Sound (l : List Int) (P : List (List Dd)) (s : St) : Prop :=
  MI s.m ∧ (∀ i, s.deed i = ndl P i) ∧ (∀ i, (s.told i).length = ndl P i) ∧
  ∃ L, List.Perm L (doneL s P.length) ∧ R1 (dd P) L (InS (mm0 l)) (InS s.m) ∧ L.Pairwise (fun x y => (x.2.2.bgn : Int) ≤ y.2.2.fin) ∧ ∀ x ∈ L, (x.2.2.bgn : Int) ≤ x.2.2.fin
theorem sound_of {alg : Nat} (h : OkIn l P) {J : (Nat → Int → Prop) → (Nat → Nat → Nat) → St → Prop} {s : St} (I : StI J P l s) (hc : ∀ i, can P s i = false) (hJ : ∀ S pos, J S pos s → LI alg P.length (dd P) S pos s ∧ MI s.m) : Sound l P s := by
  obtain ⟨S, pos, j, h0⟩ := I.ex
  obtain ⟨li, mi⟩ := hJ S pos j
  have hd : ∀ i, s.deed i = ndl P i := by
    intro i
    have h1 := I.dl i
    have h2 := hc i
    have h3 : ¬ s.deed i < ndl P i := by rw [← can_iff, h2]; simp
    omega
  have hl : ∀ i, (s.told i).length = s.deed i := by
    intro i
    have h1 := I.ln i
    by_cases e : (s.told i).length = s.deed i + 1
    · have := I.pr i e
      rw [hc i] at this; exact absurd this (by decide)
    · omega
  refine ⟨mi, hd, fun i => by rw [hl, hd], ?_⟩
  obtain ⟨L, a1, a2, a3, a4⟩ := li.order (fun i _ => hl i) (fun i e _ _ => (dd_ok h.deeds i e).2.2)
  exact ⟨L, a1, a2.congr h0, a3, a4⟩
theorem mkd0 (l : List Int) : mkd (mm0 l) = 0 := by
  have := sumN_const (fun x => owe 0 (¬ ((mm0 l).mr x = true ∧ Rc (mm0 l).nx 0 x)) 1) 0 (mm0 l).n (fun j _ => by
    have e : owe 0 (¬ ((mm0 l).mr j = true ∧ Rc (mm0 l).nx 0 j)) 1 = 0 := owe_pos (fun h => absurd h.1 (by simp [mm0]))
    rw [e]; exact Nat.le_refl _)
  unfold mkd; omega
theorem all_sound (h : OkIn l P) (alg : Nat) (ha : alg = 1 ∨ alg = 2 ∨ alg = 3) (o : List Int) (ho : o.length ≤ 500) (s : St) (hf : FinR alg P (ordS alg P o (st0 l)) s) : Sound l P s ∧ s.now < 4000 := by
  rcases ha with rfl | rfl | rfl
  · have p := lockPot h.deeds l
    obtain ⟨a, b, c⟩ := p.ord o (st0 l) (st0_ex (lk0 h))
    have hF : sumN (phLk P (st0 l)) P.length ≤ 645 * P.length := sumN_const _ 645 _ (fun j _ => by
      have := h.ndl j
      unfold phLk
      have e : aLk (st0 l).m ((st0 l).hd j) = 125 := rfl
      rw [e]; omega)
    have hn : (st0 l).now = 0 := rfl
    have := h.len
    obtain ⟨i1, i2, i3⟩ := p.all h.len a (by omega) hf
    exact ⟨sound_of h i1 i3 (fun S pos j => ⟨j.li, j.mi⟩), i2⟩
  · have p := lazyPot h.deeds h.len l
    obtain ⟨a, b, c⟩ := p.ord o (st0 l) (st0_ex (lz0 h))
    have hF : sumN (phLz P (st0 l)) P.length ≤ 552 * P.length := sumN_const _ 552 _ (fun j _ => by
      have := h.ndl j
      unfold phLz
      have e : ownLz (st0 l).m ((st0 l).hd j) = 32 := owe_pos (Or.inl rfl)
      rw [e]; omega)
    have hn : (st0 l).now = 0 := rfl
    have := h.len
    obtain ⟨i1, i2, i3⟩ := p.all h.len a (by omega) hf
    exact ⟨sound_of h i1 i3 (fun S pos j => ⟨j.li, j.mi⟩), i2⟩
  · have p := markPot h.deeds h.len l
    obtain ⟨a, b, c⟩ := p.ord o (st0 l) (st0_ex (mk0 h))
    have hF : sumN (phMk P (st0 l)) P.length ≤ 704 * P.length := sumN_const _ 704 _ (fun j _ => by
      have := h.ndl j
      unfold phMk
      have e : ownMk (st0 l).m ((st0 l).hd j) (dd P j ((st0 l).deed j)) = 14 := owe_pos (Or.inl rfl)
      have e2 : (if ((st0 l).hd j).plc = 3 then 0 else 90) = 90 := rfl
      rw [e, e2]; omega)
    have hM : mkd (st0 l).m = 0 := mkd0 l
    have hn : (st0 l).now = 0 := rfl
    have := h.len
    obtain ⟨i1, i2, i3⟩ := p.all h.len a (by omega) hf
    exact ⟨sound_of h i1 i3 (fun S pos j => ⟨j.1.li, j.1.mi⟩), i2⟩
-- one that marks, alone
theorem ord_app (alg : Nat) (P : List (List Dd)) (a b : List Int) (s : St) : ordS alg P (a ++ b) s = ordS alg P b (ordS alg P a s) := List.foldl_append ..
theorem solo_ends (h : OkIn l P) (i : Nat) (hi : i < P.length) : ∀ n s, StI (fun S pos s => MkI P.length (dd P) S pos s ∧ ∀ x, s.m.lk x = false) P l s → phM1 P s i < n → can P (ordS 3 P (List.replicate n (i : Int)) s) i = false := by
  intro n
  induction n with
  | zero => intro s _ hn; exact absurd hn (Nat.not_lt_zero _)
  | succ n ih =>
    intro s I hn
    have e : ordS 3 P (List.replicate (n + 1) (i : Int)) s = ordS 3 P (List.replicate n (i : Int)) (if 0 ≤ (i : Int) ∧ (i : Int) < (P.length : Int) then stpO 3 P s (i : Int).toNat else s) := rfl
    rw [e, if_pos ⟨by omega, by omega⟩, Int.toNat_natCast]
    by_cases hc : can P s i = true
    · rw [stpO_can hc]
      obtain ⟨S, pos, hJ, _⟩ := I.ex
      have := mark_solo h.deeds hJ.1 i hc
      exact ih _ ((markPot h.deeds h.len l).keep s i I hc) (by omega)
    · have hc : can P s i = false := by simpa using hc
      rw [stpO_cannot _ _ _ _ hc]
      have : ∀ n, ordS 3 P (List.replicate n (i : Int)) s = s := by
        intro n
        induction n with
        | zero => rfl
        | succ n ih2 =>
          have e : ordS 3 P (List.replicate (n + 1) (i : Int)) s = ordS 3 P (List.replicate n (i : Int)) (if 0 ≤ (i : Int) ∧ (i : Int) < (P.length : Int) then stpO 3 P s (i : Int).toNat else s) := rfl
          rw [e, if_pos ⟨by omega, by omega⟩, Int.toNat_natCast, stpO_cannot _ _ _ _ hc]; exact ih2
      rw [this]; exact hc
theorem fin_keeps {alg : Nat} {s s' : St} (i : Nat) (hc : can P s i = false) (hf : FinR alg P s s') : s'.told i = s.told i := by
  obtain ⟨k, e, _⟩ := hf
  have one : ∀ (x : St) j, can P x i = false → x.told i = s.told i → can P (stpL alg P x j) i = false ∧ (stpL alg P x j).told i = s.told i := by
    intro x j hx ht
    unfold stpL
    split
    · by_cases hj : can P x j = true
      · have hij : i ≠ j := by rintro rfl; rw [hx] at hj; exact absurd hj (by decide)
        rw [stpO_can hj]
        obtain ⟨_, o2, o3⟩ := @stp_other alg (dd P j (x.deed j)) x j i hij
        refine ⟨?_, by rw [o3]; exact ht⟩
        have : can P (stp alg (dd P j (x.deed j)) x j) i = can P x i := by unfold can; rw [o2]
        rw [this]; exact hx
      · rw [stpO_cannot _ _ _ _ (by simpa using hj)]; exact ⟨hx, ht⟩
    · exact ⟨hx, ht⟩
  have rn : ∀ (x : St), can P x i = false → x.told i = s.told i → can P (rnd alg P x) i = false ∧ (rnd alg P x).told i = s.told i := by
    intro x
    unfold rnd
    generalize List.range P.length = L
    induction L generalizing x with
    | nil => intro h1 h2; exact ⟨h1, h2⟩
    | cons j L ih =>
      intro h1 h2
      obtain ⟨a, b⟩ := one x j h1 h2
      exact ih _ a b
  have go : ∀ k, can P (Nat.rec (motive := fun _ => St) s (fun _ x => rnd alg P x) k) i = false ∧ (Nat.rec (motive := fun _ => St) s (fun _ x => rnd alg P x) k).told i = s.told i := by
    intro k
    induction k with
    | zero => exact ⟨hc, rfl⟩
    | succ k ih => exact rn _ ih.1 ih.2
  rw [e]; exact (go k).2
/-- Of those that mark: whoever stops does not keep the others. -/
theorem mark_free (h : OkIn l P) (i : Nat) (hi : i < P.length) (o : List Int) (ho : o.length ≤ 300) (s : St) (hf : FinR 3 P (ordS 3 P (o ++ List.replicate 200 (i : Int)) (st0 l)) s) : ∀ r ∈ s.told i, 0 ≤ r.fin ∧ r.fin < (o.length : Int) + 200 := by
  have p := markPot h.deeds h.len l
  obtain ⟨a, _, c⟩ := p.ord o (st0 l) (st0_ex (mk0 h))
  have hn : (st0 l).now = 0 := rfl
  have hph : phM1 P (ordS 3 P o (st0 l)) i < 200 := by
    have h1 := h.ndl i
    have h2 : ownMk (ordS 3 P o (st0 l)).m ((ordS 3 P o (st0 l)).hd i) (dd P i ((ordS 3 P o (st0 l)).deed i)) ≤ aMk (ordS 3 P o (st0 l)).m ((ordS 3 P o (st0 l)).hd i) + 15 := owe_max
    have h3 : aMk (ordS 3 P o (st0 l)).m ((ordS 3 P o (st0 l)).hd i) ≤ 14 := by
      unfold aMk
      split
      · omega
      · split
        · rename_i h4 h5
          obtain ⟨S, pos, hJ, _⟩ := a.ex
          have h6 := ((hJ.1.hq i).1.2.1 h4).2.1
          have h7 := hJ.1.mi.kg h6
          omega
        · split <;> omega
    unfold phM1; omega
  have hc := solo_ends h i hi 200 _ a hph
  rw [← ord_app] at hc
  obtain ⟨b, _, d⟩ := p.ord (o ++ List.replicate 200 (i : Int)) (st0 l) (st0_ex (mk0 h))
  rw [fin_keeps i hc hf]
  obtain ⟨S, pos, hJ, _⟩ := b.ex
  intro r hr
  obtain ⟨e, he, rfl⟩ := List.getElem_of_mem hr
  have hlen : ((ordS 3 P (o ++ List.replicate 200 (i : Int)) (st0 l)).told i).length = (ordS 3 P (o ++ List.replicate 200 (i : Int)) (st0 l)).deed i := by
    have h1 := b.ln i
    by_cases e2 : ((ordS 3 P (o ++ List.replicate 200 (i : Int)) (st0 l)).told i).length = (ordS 3 P (o ++ List.replicate 200 (i : Int)) (st0 l)).deed i + 1
    · have := b.pr i e2
      rw [hc] at this; exact absurd this (by decide)
    · omega
  obtain ⟨_, x2, x3⟩ := hJ.1.li.dn i e _ (by rw [← hlen]; exact he) (List.getElem?_eq_getElem he)
  rw [List.length_append, List.length_replicate] at d
  omega
end Go.Proofs.Ytoihdnekkgpcoaa
namespace Go.Proofs.Ytoihdnekkgpcoaa
set_option linter.unusedVariables false
set_option linter.unusedSimpArgs false

/-- What is left. -/
def leftM (m : Mm) : List Int := leftF m 12 (m.nx 0)
theorem leftF_more (m : Mm) (h : MI m) : ∀ (f i : Nat), i < m.n → 11 - m.ky i ≤ (f : Int) → leftF m (f + 1) i = leftF m f i := by
  intro f
  induction f with
  | zero => intro i hi hf; have := h.kl i hi; omega
  | succ f ih =>
    intro i hi hf
    by_cases hk : m.ky i = 10
    · simp [leftF, hk]
    · have h1 := h.ri i hi hk
      have := ih (m.nx i) (h.nl i hi) (by omega)
      show (if m.ky i = 10 then [] else (if m.mr i then [] else [m.ky i]) ++ leftF m (f + 1) (m.nx i)) = (if m.ky i = 10 then [] else (if m.mr i then [] else [m.ky i]) ++ leftF m f (m.nx i))
      rw [this]
theorem leftF_spec (m : Mm) (h : MI m) : ∀ (f i : Nat), i < m.n → 11 - m.ky i ≤ (f : Int) → (∀ x, x ∈ leftF m f i ↔ x ≠ 10 ∧ ∃ j, j < m.n ∧ m.mr j = false ∧ m.ky j = x ∧ Rc m.nx i j) ∧ (leftF m f i).Pairwise (· < ·) ∧ ∀ x ∈ leftF m f i, m.ky i ≤ x := by
  intro f
  induction f with
  | zero => intro i hi hf; have := h.kl i hi; omega
  | succ f ih =>
    intro i hi hf
    by_cases hk : m.ky i = 10
    · have e : leftF m (f + 1) i = [] := by simp [leftF, hk]
      rw [e]
      refine ⟨fun x => ⟨fun hx => absurd hx (by simp), ?_⟩, .nil, fun x hx => absurd hx (by simp)⟩
      rintro ⟨hx, j, hj, mj, kj, r⟩
      rcases h.le r hi with e2 | e2
      · rw [e2, hk] at kj; exact absurd kj.symm hx
      · have := h.kl j hj; omega
    · have h1 := h.ri i hi hk
      obtain ⟨a, b, c⟩ := ih (m.nx i) (h.nl i hi) (by omega)
      have e : leftF m (f + 1) i = (if m.mr i then [] else [m.ky i]) ++ leftF m f (m.nx i) := by simp [leftF, hk]
      rw [e]
      have hst : ∀ x, x ≠ 10 ∧ (∃ j, j < m.n ∧ m.mr j = false ∧ m.ky j = x ∧ Rc m.nx i j) ↔ (m.mr i = false ∧ x = m.ky i) ∨ (x ≠ 10 ∧ ∃ j, j < m.n ∧ m.mr j = false ∧ m.ky j = x ∧ Rc m.nx (m.nx i) j) := by
        intro x
        constructor
        · rintro ⟨hx, j, hj, mj, kj, r⟩
          cases r with
          | refl => exact Or.inl ⟨mj, kj.symm⟩
          | step _ _ r => exact Or.inr ⟨hx, j, hj, mj, kj, r⟩
        · rintro (⟨k1, k2⟩ | ⟨hx, j, hj, mj, kj, r⟩)
          · exact ⟨by rw [k2]; exact hk, i, hi, k1, k2.symm, .refl _⟩
          · exact ⟨hx, j, hj, mj, kj, .step _ _ r⟩
      cases hm : m.mr i with
      | true =>
        simp only [if_true, List.nil_append]
        refine ⟨fun x => ?_, b, fun x hx => ?_⟩
        · rw [a x, hst x, hm]; simp
        · have := c x hx; omega
      | false =>
        simp only [Bool.false_eq_true, if_false, List.singleton_append]
        refine ⟨fun x => ?_, ?_, fun x hx => ?_⟩
        · rw [List.mem_cons, a x, hst x, hm]; simp
        · rw [List.pairwise_cons]
          exact ⟨fun y hy => by have := c y hy; omega, b⟩
        · rw [List.mem_cons] at hx
          rcases hx with rfl | hx
          · exact Int.le_refl _
          · have := c x hx; omega
theorem leftM_spec (m : Mm) (h : MI m) : (leftM m).Pairwise (· < ·) ∧ (∀ x ∈ leftM m, 0 ≤ x ∧ x ≤ 9) ∧ ∀ x, 0 ≤ x → x ≤ 9 → (x ∈ leftM m ↔ InS m x) := by
  have h0 := h.ri 0 h.pos (by rw [h.k0]; omega)
  rw [h.k0] at h0
  obtain ⟨a, b, c⟩ := leftF_spec m h 12 (m.nx 0) (h.nl 0 h.pos) (by omega)
  refine ⟨b, fun x hx => ?_, fun x hx1 hx2 => ?_⟩
  · have h1 := c x hx
    obtain ⟨h2, j, hj, _, kj, _⟩ := (a x).1 hx
    have := h.kl j hj
    omega
  · unfold leftM
    rw [a x]
    constructor
    · rintro ⟨_, j, hj, mj, kj, _⟩; exact ⟨j, hj, mj, kj⟩
    · rintro ⟨j, hj, mj, kj⟩
      refine ⟨by omega, j, hj, mj, kj, ?_⟩
      have r := h.rc j hj mj
      cases r with
      | refl => rw [h.k0] at kj; omega
      | step _ _ r => exact r
/-- By how much a deed that was told changes how often key k is there. -/
def chg (D : Nat → Nat → Dd) (k : Int) (x : Nat × Nat × Dn) : Int :=
  if x.2.2.is = true ∧ (D x.1 x.2.1).key = k then (if (D x.1 x.2.1).kind = 1 then 1 else if (D x.1 x.2.1).kind = 2 then -1 else 0) else 0
open Classical in
noncomputable def one (p : Prop) : Int := if p then 1 else 0
theorem one_t {p : Prop} (h : p) : one p = 1 := by unfold one; rw [if_pos h]
theorem one_f {p : Prop} (h : ¬ p) : one p = 0 := by unfold one; rw [if_neg h]
theorem one_iff {p q : Prop} (h : p ↔ q) : one p = one q := by rw [propext h]
theorem R1.sum {D : Nat → Nat → Dd} (hD : ∀ i e, okD (D i e)) (k : Int) : ∀ (L : List (Nat × Nat × Dn)) (A B : Int → Prop), R1 D L A B → one (A k) + (L.map (chg D k)).sum = one (B k) := by
  intro L
  induction L with
  | nil => intro A B r; rw [one_iff (r k)]; simp
  | cons x L ih =>
    intro A B r
    obtain ⟨r1, r2⟩ := r
    have := ih _ _ r2
    rw [List.map_cons, List.sum_cons, ← this]
    have hk := (hD x.1 x.2.1).2.2
    have e : one (A k) + chg D k x = one (nextP (D x.1 x.2.1) A k) := by
      unfold chg
      by_cases hx : k = (D x.1 x.2.1).key
      · subst hx
        by_cases h3 : (D x.1 x.2.1).kind = 3
        · have e1 : nextP (D x.1 x.2.1) A (D x.1 x.2.1).key ↔ A (D x.1 x.2.1).key := by unfold nextP; rw [if_neg (fun h => h.2 h3)]
          rw [one_iff e1, h3]; simp
        · have e1 : nextP (D x.1 x.2.1) A (D x.1 x.2.1).key ↔ (D x.1 x.2.1).kind = 1 := by unfold nextP; rw [if_pos ⟨rfl, h3⟩]
          rw [one_iff e1]
          cases hi : x.2.2.is with
          | true =>
            rcases hk with h1 | h1 | h1
            · rw [one_t h1, one_f (by rw [r1, hi, h1]; decide)]; simp [h1]
            · rw [one_f (p := _ = 1) (by omega), one_t (by rw [r1, hi, h1]; decide)]; simp [h1]
            · exact absurd h1 h3
          | false =>
            rcases hk with h1 | h1 | h1
            · rw [one_t h1, one_t (by rw [r1, hi, h1]; decide)]; simp
            · rw [one_f (p := _ = 1) (by omega), one_f (by rw [r1, hi, h1]; decide)]; simp
            · exact absurd h1 h3
      · have e1 : nextP (D x.1 x.2.1) A k ↔ A k := by unfold nextP; rw [if_neg (fun h => hx h.1)]
        rw [one_iff e1, if_neg (fun h => hx h.2.symm)]; omega
    omega
theorem sum_perm {a b : List Int} (h : a.Perm b) : a.sum = b.sum := by
  induction h with
  | nil => rfl
  | cons x _ ih => simp only [List.sum_cons]; omega
  | swap x y l => simp only [List.sum_cons]; omega
  | trans _ _ ih1 ih2 => omega
theorem one_mem (k : Int) : ∀ l : List Int, l.Pairwise (· < ·) → one (k ∈ l) = (l.map (fun x => if x = k then 1 else 0)).sum := by
  intro l
  induction l with
  | nil => intro _; rw [one_f (by simp)]; rfl
  | cons x l ih =>
    intro hp
    rw [List.pairwise_cons] at hp
    have := ih hp.2
    rw [List.map_cons, List.sum_cons, ← this]
    by_cases hx : x = k
    · subst hx
      have : ¬ x ∈ l := fun h => by have := hp.1 x h; omega
      rw [one_t (by simp), one_f this]; simp
    · rw [if_neg hx]
      have e : k ∈ x :: l ↔ k ∈ l := by simp; intro h; exact absurd h.symm hx
      rw [one_iff e]; omega
/-- As often as it was there and came, less as often as it went, it is left. -/
theorem Sound.count {l : List Int} {P : List (List Dd)} {s : St} (h : OkIn l P) (hs : Sound l P s) (k : Int) (hk : 0 ≤ k ∧ k ≤ 9) :
    (l.map (fun x => if x = k then (1 : Int) else 0)).sum + ((doneL s P.length).map (chg (dd P) k)).sum = ((leftM s.m).map (fun x => if x = k then (1 : Int) else 0)).sum := by
  obtain ⟨mi, _, _, L, a1, a2, _, _⟩ := hs
  have h1 := a2.sum (dd_ok h.deeds) k
  obtain ⟨b1, b2, b3⟩ := leftM_spec s.m mi
  rw [← one_mem k l h.sort, ← one_mem k _ b1, ← sum_perm (a1.map (chg (dd P) k)), ← one_iff (mm0_InS l h.keys k hk), one_iff (b3 k hk.1 hk.2)]
  exact h1
theorem erase_perm {α : Type} : ∀ (l : List α) (k : Nat) (h : k < l.length), l.Perm (l[k] :: l.eraseIdx k) := by
  intro l
  induction l with
  | nil => intro k h; exact absurd h (Nat.not_lt_zero _)
  | cons x l ih =>
    intro k h
    cases k with
    | zero => exact .refl _
    | succ k =>
      have h : k < l.length := Nat.lt_of_succ_lt_succ h
      exact ((ih k h).cons x).trans (.swap _ _ _)
/-- The search for an order: who may be the next one, and answers as the set does. -/
def ordF (D : Nat → Nat → Dd) (left : Int → Bool) : Nat → (Int → Bool) → List (Nat × Nat × Dn) → Bool
  | 0, has, todo => decide (∀ k : Fin 10, has k.val = left k.val)
  | f + 1, has, todo =>
    if todo.isEmpty then decide (∀ k : Fin 10, has k.val = left k.val) else
    (List.range todo.length).any fun k => match todo[k]? with
      | none => false
      | some x => !(todo.any (fun y => decide (y.2.2.fin < x.2.2.bgn))) && (decide (x.2.2.is = (has (D x.1 x.2.1).key != decide ((D x.1 x.2.1).kind = 1)))) &&
          ordF D left f (fun y => if y = (D x.1 x.2.1).key ∧ (D x.1 x.2.1).kind ≠ 3 then decide ((D x.1 x.2.1).kind = 1) else has y) (todo.eraseIdx k)
theorem ordF_of {D : Nat → Nat → Dd} {left : Int → Bool} : ∀ (f : Nat) (L todo : List (Nat × Nat × Dn)) (has : Int → Bool) (A B : Int → Prop), todo.length = f → L.Perm todo → R1 D L A B → (∀ x, A x ↔ has x = true) → (∀ x, 0 ≤ x → x ≤ 9 → (B x ↔ left x = true)) → L.Pairwise (fun x y => (x.2.2.bgn : Int) ≤ y.2.2.fin) → (∀ x ∈ L, (x.2.2.bgn : Int) ≤ x.2.2.fin) → ordF D left f has todo = true := by
  have fin : ∀ (has : Int → Bool) (A B : Int → Prop), R1 D [] A B → (∀ x, A x ↔ has x = true) → (∀ x, 0 ≤ x → x ≤ 9 → (B x ↔ left x = true)) → decide (∀ k : Fin 10, has k.val = left k.val) = true := by
    intro has A B r hA hB
    refine decide_eq_true (fun k => ?_)
    have h1 := hA (k.val : Int)
    have h2 := hB (k.val : Int) (by omega) (by omega)
    rw [r, h2] at h1
    cases e1 : has (k.val : Int) <;> cases e2 : left (k.val : Int) <;> simp_all
  intro f
  induction f with
  | zero =>
    intro L todo has A B hl hp r hA hB _ _
    have : L = [] := List.eq_nil_of_length_eq_zero (by rw [hp.length_eq]; exact hl)
    subst this
    exact fin has A B r hA hB
  | succ f ih =>
    intro L todo has A B hl hp r hA hB hw hs
    cases L with
    | nil => have := hp.length_eq; rw [hl] at this; exact absurd this (by simp)
    | cons x L =>
      have hx : x ∈ todo := hp.subset (by simp)
      obtain ⟨k, hk, ek⟩ := List.getElem_of_mem hx
      have hne : todo.isEmpty = false := by cases todo with | nil => simp at hl | cons a b => rfl
      unfold ordF
      rw [if_neg (by rw [hne]; simp), List.any_eq_true]
      refine ⟨k, List.mem_range.2 hk, ?_⟩
      rw [List.getElem?_eq_getElem hk, ek]
      simp only []
      obtain ⟨r1, r2⟩ := r
      rw [List.pairwise_cons] at hw
      have c1 : todo.any (fun y => decide (y.2.2.fin < x.2.2.bgn)) = false := by
        rw [List.any_eq_false]
        intro y hy
        have hy2 : y ∈ x :: L := hp.symm.subset hy
        rw [List.mem_cons] at hy2
        have : (x.2.2.bgn : Int) ≤ y.2.2.fin := by
          rcases hy2 with rfl | hy2
          · exact hs _ (by simp)
          · exact hw.1 y hy2
        simp; omega
      have c2 : x.2.2.is = (has (D x.1 x.2.1).key != decide ((D x.1 x.2.1).kind = 1)) := by
        rw [hA] at r1
        cases e1 : has (D x.1 x.2.1).key <;> cases e2 : x.2.2.is <;> by_cases e3 : (D x.1 x.2.1).kind = 1 <;> simp_all
      rw [c1, decide_eq_true c2]
      simp only [Bool.not_false, Bool.true_and]
      have hp2 : L.Perm (todo.eraseIdx k) := by
        have h1 : todo.Perm (x :: todo.eraseIdx k) := by
          rw [← ek]
          exact erase_perm todo k hk
        exact (hp.trans h1).cons_inv
      refine ih L (todo.eraseIdx k) _ _ B ?_ hp2 r2 ?_ hB hw.2 (fun y hy => hs y (List.mem_cons_of_mem _ hy))
      · rw [List.length_eraseIdx_of_lt hk]; omega
      · intro y
        unfold nextP
        split
        · simp
        · exact hA y
end Go.Proofs.Ytoihdnekkgpcoaa
namespace Go.Proofs.Ytoihdnekkgpcoaa
set_option linter.unusedVariables false
set_option linter.unusedSimpArgs false

variable {l : List Int}
/-- One hand, one deed: where it is at time t. -/
def SoA (alg : Nat) (l : List Int) (d : Dd) (t : Nat) (m : Mm) (h : Hd) : Prop :=
  m.n = (mm0 l).n ∧ m.ky = (mm0 l).ky ∧ m.nx = (mm0 l).nx ∧
  ((h.plc = 0 ∧ t = 0 ∧ (∀ x, m.mr x = false) ∧ ∀ x, m.lk x = false) ∨
   (h.plc ≠ 0 ∧ h.c = h.p + 1 ∧ h.p ≤ l.length ∧ m.ky h.p < d.key ∧
    ((alg = 1 ∧ (∀ x, m.mr x = false) ∧ ((h.plc = 1 ∧ (∀ x, m.lk x = true → x = h.p) ∧ t ≤ 2 * h.p + 1) ∨ (h.plc = 2 ∧ (∀ x, m.lk x = true → x = h.p ∨ x = h.c) ∧ t ≤ 2 * h.p + 2))) ∨
     (alg = 2 ∧ (((∀ x, m.mr x = false) ∧ h.plc = 1 ∧ (∀ x, m.lk x = false) ∧ t ≤ h.p + 1) ∨
       ((∀ x, m.mr x = false) ∧ h.plc = 3 ∧ (∀ x, m.lk x = true → x = h.p) ∧ d.key ≤ m.ky h.c ∧ d.kind ≠ 3 ∧ t ≤ h.p + 2) ∨
       ((∀ x, m.mr x = false) ∧ h.plc = 4 ∧ d.key ≤ m.ky h.c ∧ d.kind ≠ 3 ∧ t ≤ h.p + 3) ∨
       (h.plc = 5 ∧ t ≤ h.p + 4 ∧ h.is = true ∧ d.kind = 2 ∧ m.ky h.c = d.key))) ∨
     ((alg = 3 ∨ alg = 4) ∧ (((∀ x, m.mr x = false) ∧ h.plc = 1 ∧ t ≤ h.p + 1) ∨
       ((∀ x, m.mr x = false) ∧ h.plc = 2 ∧ d.key ≤ m.ky h.c ∧ d.kind ≠ 3 ∧ decide (m.ky h.c = d.key) ≠ decide (d.kind = 1) ∧ t ≤ h.p + 2) ∨
       (h.plc = 3 ∧ t ≤ h.p + 3 ∧ h.is = true ∧ d.kind = 2 ∧ m.ky h.c = d.key))))))
/-- The answer. -/
def ansD (l : List Int) (d : Dd) : Bool := decide (d.key ∈ l) == decide (d.kind ≠ 1)
theorem mm0_nx {p : Nat} (h : p ≤ l.length) : (mm0 l).nx p = p + 1 := by simp [mm0]; omega
theorem mm0_end {p : Nat} (h : l.length < p) : (mm0 l).ky p = 10 := by
  simp only [mm0]
  rw [if_neg (by omega), dif_neg (by omega)]
theorem solo_in {P : List (List Dd)} (h : OkIn l P) {d : Dd} (hk : okD d) {p : Nat} (hp : p ≤ l.length) (h1 : (mm0 l).ky p < d.key) (h2 : d.key ≤ (mm0 l).ky (p + 1)) : decide (d.key ∈ l) = decide ((mm0 l).ky (p + 1) = d.key) := by
  have mi := mm0_MI l h.keys h.sort
  have hn : (mm0 l).n = l.length + 2 := rfl
  have e := mm0_InS l h.keys d.key ⟨hk.1, hk.2.1⟩
  by_cases hh : (mm0 l).ky (p + 1) = d.key
  · rw [decide_eq_true hh, decide_eq_true (e.1 ⟨p + 1, by omega, rfl, hh⟩)]
  · rw [decide_eq_false hh]
    refine decide_eq_false (fun hm => ?_)
    exact mi.gap (p := p) (c := p + 1) (by omega) rfl (mm0_nx hp) h1 (by omega) (e.2 hm)
theorem solo_step {P : List (List Dd)} (hO : OkIn l P) {d : Dd} (hk : okD d) (alg : Nat) (ha : alg = 1 ∨ alg = 2 ∨ alg = 3 ∨ alg = 4) (t : Nat) (m : Mm) (h : Hd) (q : SoA alg l d t m h) :
    ((algS alg m h d).2.2 = false ∧ SoA alg l d (t + 1) (algS alg m h d).1 (algS alg m h d).2.1) ∨
    ((algS alg m h d).2.2 = true ∧ t < 3 * l.length + 8 ∧ (algS alg m h d).2.1.is = ansD l d) := by
  obtain ⟨e1, e2, e3, q⟩ := q
  have mi := mm0_MI l hO.keys hO.sort
  have hk0 : (mm0 l).ky 0 = -1 := rfl
  have hky := hk.1
  have hky2 := hk.2.1
  -- the answers
  have an : ∀ is : Bool, h.p ≤ l.length → h.c = h.p + 1 → m.ky h.p < d.key → d.key ≤ m.ky h.c → is = (decide (m.ky h.c = d.key) == decide (d.kind ≠ 1)) → is = ansD l d := by
    intro is h1 h2 h3 h4 h5
    rw [e2] at h3 h4 h5
    rw [h2] at h4 h5
    unfold ansD
    rw [solo_in hO hk h1 h3 h4]; exact h5
  -- the next bead
  have nxt : h.p ≤ l.length → h.c = h.p + 1 → m.ky h.c < d.key → h.c ≤ l.length ∧ m.nx h.c = h.c + 1 := by
    intro h1 h2 h3
    have : h.c ≤ l.length := by
      refine Classical.byContradiction (fun hx => ?_)
      rw [e2, mm0_end (by omega)] at h3; omega
    exact ⟨this, by rw [e3]; exact mm0_nx this⟩
  have n0 : m.nx 0 = 0 + 1 := by rw [e3]; exact mm0_nx (Nat.zero_le _)
  rcases q with ⟨q1, q2, q3, q4⟩ | ⟨q1, q2, q3, q4, q⟩
  · -- begin
    left
    rcases ha with rfl | rfl | rfl | rfl
    · have er : algS 1 m h d = (m.lock 0, h.again m, false) := by show lockS m h d = _; unfold lockS; rw [q1]; simp [q4]
      rw [er]
      refine ⟨rfl, e1, e2, e3, Or.inr ⟨by simp [Hd.again], n0, Nat.zero_le _, by show m.ky 0 < _; rw [e2, hk0]; omega, Or.inl ⟨rfl, q3, Or.inl ⟨rfl, ?_, by omega⟩⟩⟩⟩
      intro x hx
      have hx : up m.lk 0 true x = true := hx
      refine Classical.byContradiction (fun e => ?_)
      have e : x ≠ 0 := e
      rw [up_ne _ _ e, q4] at hx; exact absurd hx (by decide)
    · have er : algS 2 m h d = (m, h.again m, false) := by show lazyS m h d = _; unfold lazyS; rw [q1]; rfl
      rw [er]
      exact ⟨rfl, e1, e2, e3, Or.inr ⟨by simp [Hd.again], n0, Nat.zero_le _, by show m.ky 0 < _; rw [e2, hk0]; omega, Or.inr (Or.inl ⟨rfl, Or.inl ⟨q3, rfl, q4, by omega⟩⟩)⟩⟩
    · have er : algS 3 m h d = (m, h.again m, false) := by show markS false m h d = _; unfold markS; rw [q1]; rfl
      rw [er]
      exact ⟨rfl, e1, e2, e3, Or.inr ⟨by simp [Hd.again], n0, Nat.zero_le _, by show m.ky 0 < _; rw [e2, hk0]; omega, Or.inr (Or.inr ⟨Or.inl rfl, Or.inl ⟨q3, rfl, by omega⟩⟩)⟩⟩
    · have er : algS 4 m h d = (m, h.again m, false) := by show markS true m h d = _; unfold markS; rw [q1]; rfl
      rw [er]
      exact ⟨rfl, e1, e2, e3, Or.inr ⟨by simp [Hd.again], n0, Nat.zero_le _, by show m.ky 0 < _; rw [e2, hk0]; omega, Or.inr (Or.inr ⟨Or.inr rfl, Or.inl ⟨q3, rfl, by omega⟩⟩)⟩⟩
  · rcases q with ⟨rfl, q5, q⟩ | ⟨rfl, q⟩ | ⟨ha2, q⟩
    · -- hand over hand
      rcases q with ⟨p1, p2, p3⟩ | ⟨p1, p4, p2⟩
      · left
        have hl : m.lk h.c = false := by
          cases a : m.lk h.c with
          | false => rfl
          | true => have := p2 _ a; omega
        have er : algS 1 m h d = (m.lock h.c, { h with plc := 2 }, false) := by show lockS m h d = _; unfold lockS; rw [p1]; simp [hl]
        rw [er]
        refine ⟨rfl, e1, e2, e3, Or.inr ⟨by simp, q2, q3, q4, Or.inl ⟨rfl, q5, Or.inr ⟨rfl, ?_, by show t + 1 ≤ 2 * h.p + 2; omega⟩⟩⟩⟩
        intro x hx
        have hx : up m.lk h.c true x = true := hx
        by_cases ex : x = h.c
        · exact Or.inr ex
        · rw [up_ne _ _ ex] at hx; exact Or.inl (p2 x hx)
      · by_cases h1 : m.ky h.c < d.key
        · left
          obtain ⟨x1, x2⟩ := nxt q3 q2 h1
          have er : algS 1 m h d = (m.free1 h.p, { h.on m with plc := 1 }, false) := by show lockS m h d = _; unfold lockS; rw [p1]; simp only [h1, if_true]
          rw [er]
          refine ⟨rfl, e1, e2, e3, Or.inr ⟨by simp, x2, x1, h1, Or.inl ⟨rfl, q5, Or.inl ⟨rfl, ?_, by show t + 1 ≤ 2 * h.c + 1; omega⟩⟩⟩⟩
          intro x hx
          have hx : up m.lk h.p false x = true := hx
          show x = h.c
          by_cases ex : x = h.p
          · subst ex; rw [up_same] at hx; exact absurd hx (by decide)
          · rw [up_ne _ _ ex] at hx
            exact (p4 x hx).resolve_left ex
        · right
          have fin : ∀ m' is, algS 1 m h d = (m', { h with is := is }, true) → is = (decide (m.ky h.c = d.key) == decide (d.kind ≠ 1)) → (algS 1 m h d).2.2 = true ∧ t < 3 * l.length + 8 ∧ (algS 1 m h d).2.1.is = ansD l d := by
            intro m' is er hi
            rw [er]
            exact ⟨rfl, by omega, an is q3 q2 q4 (by omega) hi⟩
          by_cases hke : m.ky h.c = d.key
          · have hlt : ¬ d.key < d.key := by omega
            by_cases hk1 : d.kind = 1
            · exact fin (m.free h.p h.c) false (by show lockS m h d = _; unfold lockS; rw [p1]; simp only [h1, hk1, hke, hlt, if_true, if_false]) (by simp [hke, hk1])
            · by_cases hk2 : d.kind = 2
              · exact fin (((m.free h.p h.c).mark h.c).drop h.p h.c) true (by show lockS m h d = _; unfold lockS; rw [p1]; simp [h1, hk1, hke, hk2, hlt]) (by simp [hke, hk1])
              · exact fin (m.free h.p h.c) true (by show lockS m h d = _; unfold lockS; rw [p1]; simp [h1, hk1, hke, hk2, hlt]) (by simp [hke, hk1])
          · by_cases hk1 : d.kind = 1
            · exact fin ((m.free h.p h.c).ins h.p h.c d.key) true (by show lockS m h d = _; unfold lockS; rw [p1]; simp only [h1, hk1, hke, if_true, if_false]) (by simp [hke, hk1])
            · exact fin (m.free h.p h.c) false (by show lockS m h d = _; unfold lockS; rw [p1]; simp only [h1, hk1, hke, if_false]) (by simp [hke, hk1])
    · -- looks twice
      rcases q with ⟨q5, p1, p2, p3⟩ | ⟨q5, p1, p2, p4, p5, p3⟩ | ⟨q5, p1, p4, p5, p3⟩ | ⟨p1, p3, p4, p5, p6⟩
      · by_cases h1 : m.ky h.c < d.key
        · left
          obtain ⟨x1, x2⟩ := nxt q3 q2 h1
          have er : algS 2 m h d = (m, h.on m, false) := by show lazyS m h d = _; unfold lazyS; rw [p1]; simp [h1]
          rw [er]
          exact ⟨rfl, e1, e2, e3, Or.inr ⟨q1, x2, x1, h1, Or.inr (Or.inl ⟨rfl, Or.inl ⟨q5, p1, p2, by show t + 1 ≤ h.c + 1; omega⟩⟩)⟩⟩
        · by_cases hk3 : d.kind = 3
          · right
            have er : algS 2 m h d = (m, { h with is := decide (m.ky h.c = d.key) && !m.mr h.c }, true) := by show lazyS m h d = _; unfold lazyS; rw [p1]; simp [h1, hk3]
            rw [er]
            exact ⟨rfl, by omega, an _ q3 q2 q4 (by omega) (by simp [q5, hk3])⟩
          · left
            have er : algS 2 m h d = (m.lock h.p, { h with plc := 3 }, false) := by show lazyS m h d = _; unfold lazyS; rw [p1]; simp [h1, hk3, lazy2, p2]
            rw [er]
            refine ⟨rfl, e1, e2, e3, Or.inr ⟨by simp, q2, q3, q4, Or.inr (Or.inl ⟨rfl, Or.inr (Or.inl ⟨q5, rfl, ?_, by show d.key ≤ m.ky h.c; omega, hk3, by show t + 1 ≤ h.p + 2; omega⟩)⟩)⟩⟩
            intro x hx
            have hx : up m.lk h.p true x = true := hx
            refine Classical.byContradiction (fun e => ?_)
            have e : x ≠ h.p := e
            rw [up_ne _ _ e, p2] at hx; exact absurd hx (by decide)
      · left
        have hl : m.lk h.c = false := by
          cases a : m.lk h.c with
          | false => rfl
          | true => have := p2 _ a; omega
        have er : algS 2 m h d = (m.lock h.c, { h with plc := 4 }, false) := by show lazyS m h d = _; unfold lazyS; rw [p1]; simp [hl]
        rw [er]
        exact ⟨rfl, e1, e2, e3, Or.inr ⟨by simp, q2, q3, q4, Or.inr (Or.inl ⟨rfl, Or.inr (Or.inr (Or.inl ⟨q5, rfl, p4, p5, by show t + 1 ≤ h.p + 3; omega⟩))⟩)⟩⟩
      · have hn : m.nx h.p = h.c := by rw [e3, mm0_nx q3, q2]
        have hchk : (m.mr h.p || m.mr h.c || m.nx h.p != h.c) = false := by rw [q5, q5, hn]; simp
        have fin : ∀ m' is, algS 2 m h d = (m', { h with is := is }, true) → is = (decide (m.ky h.c = d.key) == decide (d.kind ≠ 1)) → (algS 2 m h d).2.2 = true ∧ t < 3 * l.length + 8 ∧ (algS 2 m h d).2.1.is = ansD l d := by
          intro m' is er hi
          rw [er]
          exact ⟨rfl, by omega, an is q3 q2 q4 p4 hi⟩
        by_cases hk1 : d.kind = 1
        · right
          by_cases hke : m.ky h.c = d.key
          · exact fin (m.free h.p h.c) false (by show lazyS m h d = _; unfold lazyS; rw [p1]; simp only [hchk, hk1, hke, if_true, Bool.false_eq_true, if_false]) (by simp [hke, hk1])
          · exact fin ((m.free h.p h.c).ins h.p h.c d.key) true (by show lazyS m h d = _; unfold lazyS; rw [p1]; simp only [hchk, hk1, hke, if_true, Bool.false_eq_true, if_false]) (by simp [hke, hk1])
        · by_cases hke : m.ky h.c = d.key
          · left
            have er : algS 2 m h d = (m.mark h.c, { h with plc := 5, is := true }, false) := by show lazyS m h d = _; unfold lazyS; rw [p1]; simp only [hchk, hk1, hke, if_true, Bool.false_eq_true, if_false]
            rw [er]
            exact ⟨rfl, e1, e2, e3, Or.inr ⟨by simp, q2, q3, q4, Or.inr (Or.inl ⟨rfl, Or.inr (Or.inr (Or.inr ⟨rfl, by show t + 1 ≤ h.p + 4; omega, rfl, by have := hk.2.2; omega, hke⟩))⟩)⟩⟩
          · right
            exact fin (m.free h.p h.c) false (by show lazyS m h d = _; unfold lazyS; rw [p1]; simp only [hchk, hk1, hke, if_false, Bool.false_eq_true]) (by simp [hke, hk1])
      · right
        have er : algS 2 m h d = ((m.drop h.p h.c).free h.p h.c, h, true) := by show lazyS m h d = _; unfold lazyS; rw [p1]; rfl
        rw [er]
        exact ⟨rfl, by omega, an _ q3 q2 q4 (by omega) (by rw [p4]; simp [p5, p6])⟩
    · -- those that mark
      obtain ⟨nv, hnv⟩ : ∃ nv : Bool, ∀ m h d, algS alg m h d = markS nv m h d := by
        rcases ha2 with rfl | rfl
        · exact ⟨false, fun _ _ _ => rfl⟩
        · exact ⟨true, fun _ _ _ => rfl⟩
      rw [hnv]
      have fin : ∀ m' is, d.key ≤ m.ky h.c → t ≤ h.p + 3 → markS nv m h d = (m', { h with is := is }, true) → is = (decide (m.ky h.c = d.key) == decide (d.kind ≠ 1)) → (markS nv m h d).2.2 = true ∧ t < 3 * l.length + 8 ∧ (markS nv m h d).2.1.is = ansD l d := by
        intro m' is hx ht er hi
        rw [er]
        exact ⟨rfl, by omega, an is q3 q2 q4 hx hi⟩
      rcases q with ⟨q5, p1, p3⟩ | ⟨q5, p1, p4, p5, p6, p3⟩ | ⟨p1, p3, p4, p5, p6⟩
      · by_cases h1 : m.ky h.c < d.key
        · left
          obtain ⟨x1, x2⟩ := nxt q3 q2 h1
          have er : markS nv m h d = (m, h.on m, false) := by unfold markS; rw [p1]; simp [q5, h1]
          rw [er]
          exact ⟨rfl, e1, e2, e3, Or.inr ⟨q1, x2, x1, h1, Or.inr (Or.inr ⟨ha2, Or.inl ⟨q5, p1, by show t + 1 ≤ h.c + 1; omega⟩⟩)⟩⟩
        · by_cases hk3 : d.kind = 3
          · right
            exact fin m (decide (m.ky h.c = d.key) && !m.mr h.c) (by omega) (by omega) (by unfold markS; rw [p1]; simp [h1, hk3]) (by simp [q5, hk3])
          · by_cases h4 : decide (m.ky h.c = d.key) = decide (d.kind = 1)
            · right
              refine fin m false (by omega) (by omega) (by unfold markS; rw [p1]; simp only [q5, h1, hk3, h4, Bool.false_and, if_true, Bool.false_eq_true, if_false]) ?_
              rw [h4]
              by_cases hk1 : d.kind = 1 <;> simp [hk1]
            · left
              have er : markS nv m h d = (m, { h with plc := 2 }, false) := by unfold markS; rw [p1]; simp only [q5, h1, hk3, h4, Bool.false_and, Bool.false_eq_true, if_false]
              rw [er]
              exact ⟨rfl, e1, e2, e3, Or.inr ⟨by simp, q2, q3, q4, Or.inr (Or.inr ⟨ha2, Or.inr (Or.inl ⟨q5, rfl, by show d.key ≤ m.ky h.c; omega, hk3, h4, by show t + 1 ≤ h.p + 2; omega⟩)⟩)⟩⟩
      · have hn : m.nx h.p = h.c := by rw [e3, mm0_nx q3, q2]
        have hc : clean m h = true := clean_iff.2 ⟨q5 _, hn⟩
        by_cases hk1 : d.kind = 1
        · right
          refine fin (m.ins h.p h.c d.key) true p4 (by omega) (by unfold markS; rw [p1]; simp only [hk1, hc, Bool.or_true, if_true]) ?_
          have : ¬ m.ky h.c = d.key := by intro hx; exact p6 (by simp [hx, hk1])
          simp [this, hk1]
        · have hke : m.ky h.c = d.key := by
            refine Classical.byContradiction (fun hx => p6 ?_)
            simp [hx, hk1]
          cases nv with
          | true =>
            right
            exact fin (m.drop h.p h.c) true p4 (by omega) (by unfold markS; rw [p1]; simp only [hk1, if_true, if_false]) (by simp [hke, hk1])
          | false =>
            left
            have er : markS false m h d = (m.mark h.c, { h with plc := 3, is := true }, false) := by unfold markS; rw [p1]; simp only [hk1, q5, Bool.false_eq_true, if_false]
            rw [er]
            exact ⟨rfl, e1, e2, e3, Or.inr ⟨by simp, q2, q3, q4, Or.inr (Or.inr ⟨ha2, Or.inr (Or.inr ⟨rfl, by show t + 1 ≤ h.p + 3; omega, rfl, by have := hk.2.2; omega, hke⟩)⟩)⟩⟩
      · right
        have er : markS nv m h d = (if clean m h then m.drop h.p h.c else m, h, true) := by unfold markS; rw [p1]; rfl
        rw [er]
        exact ⟨rfl, by omega, an _ q3 q2 q4 (by omega) (by rw [p4]; simp [p5, p6])⟩
/-- Alone: while it goes on, and when it is done. -/
def SoI (alg : Nat) (l : List Int) (d : Dd) (s : St) : Prop :=
  (s.deed 0 = 0 ∧ ((s.told 0 = [] ∧ s.now = 0) ∨ s.told 0 = [⟨0, -1, false⟩]) ∧ SoA alg l d s.now s.m (s.hd 0)) ∨
  (s.deed 0 = 1 ∧ ∃ f : Nat, f < 3 * l.length + 8 ∧ s.told 0 = [⟨0, f, ansD l d⟩])
theorem solo_rnd {d : Dd} (hO : OkIn l [[d]]) (hk : okD d) (alg : Nat) (ha : alg = 1 ∨ alg = 2 ∨ alg = 3 ∨ alg = 4) (s : St) (q : SoI alg l d s) : SoI alg l d (rnd alg [[d]] s) ∧ (rnd alg [[d]] s = s → s.now < 4000 → s.deed 0 = 1) := by
  have er : rnd alg [[d]] s = stpL alg [[d]] s 0 := rfl
  rw [er]
  unfold stpL
  split
  · rcases q with ⟨q1, q2, q3⟩ | q
    · have hc : can [[d]] s 0 = true := by rw [can_iff, q1]; exact Nat.zero_lt_one
      have ed : dd [[d]] 0 (s.deed 0) = d := by rw [q1]; rfl
      rw [stpO_can hc, ed]
      have hB : toldB s 0 = [⟨0, -1, false⟩] := by
        unfold toldB
        rcases q2 with ⟨q2, q4⟩ | q2
        · rw [q2, q1, q4]; rfl
        · rw [q2, q1]; rfl
      refine ⟨?_, fun e => ?_⟩
      · unfold stp
        simp only []
        rcases solo_step hO hk alg ha s.now s.m (s.hd 0) q3 with ⟨r1, r2⟩ | ⟨r1, r2, r3⟩
        · rw [r1]
          simp only [Bool.false_eq_true, if_false]
          exact Or.inl ⟨q1, Or.inr (by simp only [up_same]; exact hB), by simp only [up_same]; exact r2⟩
        · rw [r1]
          simp only [if_true]
          refine Or.inr ⟨by simp only [up_same, q1], s.now, r2, ?_⟩
          simp only [up_same, hB, q1, r3]; rfl
      · have := congrArg St.now e
        rw [stp_now] at this; omega
    · have hc : can [[d]] s 0 = false := by
        cases a : can [[d]] s 0 with
        | false => rfl
        | true =>
          rw [can_iff, q.1] at a
          exact absurd a (Nat.lt_irrefl _)
      rw [stpO_cannot _ _ _ _ hc]
      exact ⟨Or.inr q, fun _ _ => q.1⟩
  · exact ⟨q, fun _ h => by omega⟩
theorem solo_all {d : Dd} (hO : OkIn l [[d]]) (hk : okD d) (alg : Nat) (ha : alg = 1 ∨ alg = 2 ∨ alg = 3 ∨ alg = 4) (s : St) (hf : FinR alg [[d]] (st0 l) s) : ∃ f : Nat, f < 3 * l.length + 8 ∧ s.told 0 = [⟨0, f, ansD l d⟩] := by
  obtain ⟨k, e1, e2⟩ := hf
  have q0 : SoI alg l d (st0 l) := Or.inl ⟨rfl, Or.inl ⟨rfl, rfl⟩, rfl, rfl, rfl, Or.inl ⟨rfl, rfl, fun _ => rfl, fun _ => rfl⟩⟩
  have go : ∀ k, SoI alg l d (Nat.rec (motive := fun _ => St) (st0 l) (fun _ x => rnd alg [[d]] x) k) := by
    intro k
    induction k with
    | zero => exact q0
    | succ k ih => exact (solo_rnd hO hk alg ha _ ih).1
  have q := go k
  rw [← e1] at q
  rcases q with ⟨q1, q2, q3⟩ | q
  · exfalso
    -- the time is still short
    have hn : s.now < 4000 := by
      have hl : l.length ≤ 1000 := by
        have : l.length ≤ 10 := by
          have h1 := (leftM_spec (mm0 l) (mm0_MI l hO.keys hO.sort))
          have go : ∀ (l : List Int) (a : Int), (∀ x ∈ l, a ≤ x ∧ x ≤ 9) → l.Pairwise (· < ·) → (l.length : Int) ≤ max 0 (10 - a) := by
            intro l
            induction l with
            | nil => intro a _ _; simp; omega
            | cons x l ih =>
              intro a h hp
              rw [List.pairwise_cons] at hp
              have h1 := h x (by simp)
              have := ih (x + 1) (fun y hy => ⟨by have := hp.1 y hy; omega, (h y (List.mem_cons_of_mem _ hy)).2⟩) hp.2
              rw [List.length_cons]; omega
          have := go l 0 hO.keys hO.sort
          omega
        omega
      rcases solo_step hO hk alg ha s.now s.m (s.hd 0) q3 with ⟨_, _, _, _, r⟩ | ⟨_, r, _⟩
      · rcases r with ⟨_, r, _⟩ | ⟨_, _, r3, _, r⟩
        · omega
        · rcases r with ⟨_, _, r⟩ | ⟨_, r⟩ | ⟨_, r⟩
          · rcases r with ⟨_, _, r⟩ | ⟨_, _, r⟩ <;> omega
          · rcases r with ⟨_, _, _, r⟩ | ⟨_, _, _, _, _, r⟩ | ⟨_, _, _, _, r⟩ | ⟨_, r, _⟩ <;> omega
          · rcases r with ⟨_, _, r⟩ | ⟨_, _, _, _, _, r⟩ | ⟨_, r, _⟩ <;> omega
      · omega
    have := (solo_rnd hO hk alg ha s (Or.inl ⟨q1, q2, q3⟩)).2 e2 hn
    omega
  · exact q.2
end Go.Proofs.Ytoihdnekkgpcoaa
namespace Go.Proofs.Ytoihdnekkgpcoaa
open Go.ChangeShapes Go.WideShapes Go.ChangeAt Go.RowKit
set_option linter.unusedVariables false
set_option linter.unusedSimpArgs false

/-! The block g may be written, all else stands. -/
def Kg (g : Nat) (w w' : World) : Prop := w.grownBy w' (some g)
theorem Kg.refl (g : Nat) (w : World) : Kg g w w := ⟨rfl, rfl, rfl, Nat.le_refl _, fun _ _ _ => rfl⟩
theorem Kg.size {g : Nat} {w w' : World} (h : Kg g w w') : w.heap.size ≤ w'.heap.size := World.grownBy.size h
theorem Kg.trans {g : Nat} {a b c : World} (h : Kg g a b) (k : Kg g b c) : Kg g a c := by
  obtain ⟨h1, h2, h3, h4, h5⟩ := h
  obtain ⟨k1, k2, k3, k4, k5⟩ := k
  exact ⟨k1.trans h1, k2.trans h2, k3.trans h3, Nat.le_trans h4 k4, fun i hi hn => (k5 i (Nat.lt_of_lt_of_le hi h4) hn).trans (h5 i hi hn)⟩
theorem Kg.of {g : Nat} {w w' : World} (h : Kp w w') : Kg g w w' := by
  obtain ⟨h1, h2, h3, h4, h5⟩ := h
  exact ⟨h1, h2, h3, h4, fun i hi _ => h5 i hi⟩
theorem Kg.drewN {g n : Nat} {w w' : World} (h : Kg g w w') : Kg g w (w'.drewN n) := h.trans (Kg.of (Kp.refl w').drewN)
theorem Kg.alloc {g : Nat} {w w' : World} {o : Obj} (h : Kg g w w') : Kg g w (w'.alloc o) := h.trans (Kg.of (Kp.refl w').alloc)
theorem Kg.set1 {g k : Nat} {w : World} {x : Value} : Kg g w (w.setCell ⟨g, k, none⟩ x) :=
  ⟨rfl, rfl, rfl, by simp [World.setCell], fun i hi hn => Below.heap_setCell _ _ _ _ (by rintro rfl; exact hn rfl)⟩
theorem Kg.set {g k : Nat} {w w' : World} {x : Value} (h : Kg g w w') : Kg g w (w'.setCell ⟨g, k, none⟩ x) := h.trans Kg.set1
theorem Kg.kp {g : Nat} {w0 w w' : World} (h : Kg g w w') (h0 : Kp w0 w) (hg : w0.heap.size ≤ g) : Kp w0 w' := Below.grown h0 h h0.size (fun k hk => by injection hk with hk; omega)
theorem Kg.block {g : Nat} {w w' : World} (h : Kg g w w') {i : Nat} (hi : i < w.heap.size) (hn : i ≠ g) : w'.heap[i]? = w.heap[i]? := World.grownBy.block h i hi (fun e => hn (by injection e))
theorem RD.kg {α : Type} {g : Nat} {w w' : World} {E : Enc α} {v : Value} {l : List α} (h : RD w E v l) (hv : 0 < l.length → v.ownBlock ≠ some g) (hk : Kg g w w') : RD w' E v l := by
  obtain ⟨A, c, rfl, h1, h2, hn, h3⟩ := h
  refine ⟨A, c, rfl, h1, h2, hn, fun h0 => ?_⟩
  obtain ⟨b, o, rfl, hb, hc⟩ := h3 h0
  refine ⟨b, o, rfl, Nat.lt_of_lt_of_le hb hk.size, fun k hk' j hj => ?_⟩
  rw [← hc k hk' j hj]
  have hbg : b ≠ g := fun e => hv h0 (by rw [e]; rfl)
  have := hk.block hb hbg
  exact World.cell?_of_block this
theorem AR.kg {α : Type} {g i : Nat} {w w' : World} {E : Enc α} {e : TypeId} {l : List α} (h : AR w i e E l) (hi : i ≠ g) (hk : Kg g w w') : AR w' i e E l := (hk.block h.lt hi).trans h

end Go.Proofs.Ytoihdnekkgpcoaa
