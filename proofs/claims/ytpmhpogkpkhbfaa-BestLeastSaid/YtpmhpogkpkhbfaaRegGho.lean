/-
  A region that draws its order, told slot by slot as by wp_region_tab, with a ghost: what is told of a slot and of the world may speak of a ghost that each operation may carry on (whose each new block is). No program. Conditions: none.
-/
import Derived.Test.YtpmhpogkpkhbfaaRegTab
namespace Go.Proofs.Ytpmhpogkpkhbfaa
open Go
set_option linter.unusedVariables false

section
variable {Γ : Type}
def ValsAtG (ops : Array Oper) (Val : Nat → Value → World → Γ → Prop) (J : Array Bool → World → Γ → Prop) (n : Nat) (D : List Deferred) (L : Array Bool) (a : Act) (w : World) : Prop :=
  ∃ γ, a.defers = D ∧ a.tmps.size = n ∧ J L w γ ∧ ∀ d, d < n → ((dstsOf ops).contains d = false ∨ ∃ i o, L.getD i false = true ∧ ops[i]? = some o ∧ o.dst = some d) → Val d (a.tmps.getD d undef) w γ
/-- One operation, with what it may know. -/
def StepAtG (P : Program) (ops : Array Oper) (Q : Exit → Act → World → Prop) (Val : Nat → Value → World → Γ → Prop) (J : Array Bool → World → Γ → Prop) (n : Nat) (i : Nat) (o : Oper) : Prop :=
  ∀ L a w γ, a.tmps.size = n → J L w γ → L.getD i true = false → (∀ e ∈ o.after.toList, Region.binds .any e = true → L.getD e.on false = true) → (∀ d, d < n → knowsAt ops o d = true → Val d (a.tmps.getD d undef) w γ) →
    wpOp P ops Q i (fun a' w' => ∃ v γ', a' = a.put o.dst v ∧ J (L.setIfInBounds i true) w' γ' ∧ (∀ d, o.dst = some d → Val d v w' γ') ∧ ∀ d v, o.dst ≠ some d → Val d v w γ → Val d v w' γ') a w
theorem wp_region_valsG {P : Program} {ops : Array Oper} {Q : Exit → Act → World → Prop} {id : Nat} {a : Act} {w : World} (hm : P.follows .mixedOrders = true) (Val : Nat → Value → World → Γ → Prop) (J : Array Bool → World → Γ → Prop)
    (γ0 : Γ) (hJ : J (Array.replicate ops.size false) { w with drawn := w.drawn + 1 } γ0)
    (h0 : ∀ d, d < a.tmps.size → (dstsOf ops).contains d = false → Val d (a.tmps.getD d undef) { w with drawn := w.drawn + 1 } γ0)
    (hsteps : StepsFrom (StepAtG P ops Q Val J a.tmps.size) 0 ops.toList)
    (hb : backs ops = true)
    (hend : ∀ a' w' γ, a'.defers = a.defers → a'.tmps.size = a.tmps.size → J (Array.replicate ops.size true) w' γ → (∀ d, d < a.tmps.size → Val d (a'.tmps.getD d undef) w' γ) → Q .normal a' w') :
    (Code.region id ops true).wp P Q a w := by
  refine wp_region_inv hm (ValsAtG ops Val J a.tmps.size a.defers) ⟨γ0, rfl, rfl, hJ, fun d hd h => ?_⟩ ?_ ?_
  · rcases h with h | ⟨i, o, h, _⟩
    · exact h0 d hd h
    · simp [Array.getD, Array.getElem_replicate] at h
  · rintro L a' w' hs ⟨γ, e1, e2, hj, hv⟩ i hr
    unfold Region.ready at hr
    rw [List.mem_filter, List.mem_range] at hr
    obtain ⟨hi, hr⟩ := hr
    simp only [Bool.and_eq_true, Bool.not_eq_true'] at hr
    obtain ⟨hl, hr⟩ := hr
    have ho : ops[i]? = some ops[i] := by simp [hi]
    have hi' : i < L.size := by omega
    generalize ops[i] = o at ho
    rw [ho] at hr
    have haft : ∀ e ∈ o.after.toList, Region.binds .any e = true → L.getD e.on false = true := fun e he hb => by
      have hr2 : (o.after.all fun e => !Region.binds .any e || L.getD e.on false) = true := by simpa using hr
      have := Array.all_eq_true'.1 hr2 e (by simpa using he)
      simpa [hb] using this
    have hst := hsteps.at (i := i) (o := o) (by simpa using ho)
    rw [Nat.zero_add] at hst
    refine wpOp_mono ?_ (hst L a' w' γ e2 hj hl haft fun d hd hk => hv d hd ?_)
    · rintro a2 w2 ⟨v, γ', rfl, hj2, hval, hmono⟩
      have hsz : (a'.put o.dst v).tmps.size = a'.tmps.size := by
        cases o.dst <;> simp [Act.put]
      refine ⟨γ', ?_, by rw [hsz, e2], hj2, fun d hd hk => ?_⟩
      · rw [← e1]
        cases o.dst <;> rfl
      · by_cases hdd : o.dst = some d
        · have : (a'.put o.dst v).tmps.getD d undef = v := by
            rw [hdd]
            simp [Act.put, Array.getD, e2, hd]
          rw [this]
          exact hval d hdd
        · have : (a'.put o.dst v).tmps.getD d undef = a'.tmps.getD d undef := by
            cases hq : o.dst with
            | none => rfl
            | some d2 =>
              have : d2 ≠ d := fun h => hdd (by rw [hq, h])
              simp only [Act.put, Array.getD_eq_getD_getElem?, Array.getElem?_setIfInBounds_ne this]
          rw [this]
          refine hmono d _ hdd (hv d hd ?_)
          rcases hk with hk | ⟨j, oj, h1, h2, h3⟩
          · exact .inl hk
          · by_cases hji : j = i
            · subst hji
              rw [ho] at h2
              injection h2 with h2
              subst h2
              exact absurd h3 hdd
            · refine .inr ⟨j, oj, ?_, h2, h3⟩
              have : (L.setIfInBounds i true).getD j false = L.getD j false := by
                simp only [Array.getD_eq_getD_getElem?, Array.getElem?_setIfInBounds_ne (Ne.symm hji)]
              rw [← this]
              exact h1
    · unfold knowsAt at hk
      rw [Bool.or_eq_true] at hk
      rcases hk with hk | hk
      · exact .inl (by simpa using hk)
      · rw [List.any_eq_true] at hk
        obtain ⟨e, he, hk⟩ := hk
        rw [Bool.and_eq_true] at hk
        have hk2 : (ops[e.on]?).bind (·.dst) = some d := by simpa using hk.2
        obtain ⟨oe, h1, h2⟩ := Option.bind_eq_some_iff.1 hk2
        exact .inr ⟨e.on, oe, haft e he hk.1, h1, h2⟩
  · rintro L a' w' hs ⟨γ, e1, e2, hj, hv⟩ hr
    have hall := fun i h => all_listed hb hs hr ops.size i h h
    have hL : L = Array.replicate ops.size true := by
      apply Array.ext (by simp [hs])
      intro i h1 h2
      have := hall i (by omega)
      simpa [Array.getD, h1] using this
    refine hend a' w' γ e1 e2 (hL ▸ hj) fun d hd => hv d hd ?_
    cases hc : (dstsOf ops).contains d with
    | false => exact .inl rfl
    | true =>
      right
      have hm : d ∈ dstsOf ops := by simpa using hc
      unfold dstsOf at hm
      rw [List.mem_filterMap] at hm
      obtain ⟨o, ho, hod⟩ := hm
      obtain ⟨i, hi, rfl⟩ := List.mem_iff_getElem.1 ho
      have hi' : i < ops.size := by simpa using hi
      refine ⟨i, ops[i], ?_, by simp [hi'], by simpa using hod⟩
      have := hall i hi'
      have h3 : i < L.size := by omega
      simpa [Array.getD, h3] using this
/-- One operation of a region whose slots are told by a table T, but for some that are told by G. -/
def StepTG (P : Program) (ops : Array Oper) (Q : Exit → Act → World → Prop) (T : List (Nat × Value)) (G : Nat → Value → World → Γ → Prop) (J : Array Bool → World → Γ → Prop) (a0 : Act) (i : Nat) (o : Oper) : Prop :=
  ops[i]? = some o → ∀ L a w γ, a.tmps.size = a0.tmps.size → J L w γ → L.getD i true = false → (∀ e ∈ o.after.toList, Region.binds .any e = true → L.getD e.on false = true) →
    (∀ d x, (dstsOf ops).contains d = false → a0.tmps.getD d undef = x → a.tmps.getD d undef = x) →
    (∀ d x, waitsFor ops o d = true → T.lookup d = some x → a.tmps.getD d undef = x) →
    (∀ d, waitsFor ops o d = true → G d (a.tmps.getD d undef) w γ) →
    wpOp P ops Q i (fun a' w' => ∃ v γ', a' = a.put o.dst v ∧ J (L.setIfInBounds i true) w' γ' ∧ (∀ d, o.dst = some d → (∀ x, T.lookup d = some x → v = x) ∧ G d v w' γ') ∧ ∀ d v, o.dst ≠ some d → G d v w γ → G d v w' γ') a w
theorem wp_region_tabG {P : Program} {ops : Array Oper} {Q : Exit → Act → World → Prop} {id : Nat} {a : Act} {w : World} (hm : P.follows .mixedOrders = true) (T : List (Nat × Value)) (G : Nat → Value → World → Γ → Prop) (J : Array Bool → World → Γ → Prop)
    (γ0 : Γ) (hJ : J (Array.replicate ops.size false) { w with drawn := w.drawn + 1 } γ0) (hb : backs ops = true) (hds : ((dstsOf ops).all fun d => decide (d < a.tmps.size)) = true)
    (hsteps : StepsFrom (StepTG P ops Q T G J a) 0 ops.toList)
    (hend : ∀ a' w' γ, a'.defers = a.defers → a'.tmps.size = a.tmps.size → J (Array.replicate ops.size true) w' γ →
      (∀ d x, (dstsOf ops).contains d = false → a.tmps.getD d undef = x → a'.tmps.getD d undef = x) →
      (∀ d x, (dstsOf ops).contains d = true → T.lookup d = some x → a'.tmps.getD d undef = x) →
      (∀ d, (dstsOf ops).contains d = true → G d (a'.tmps.getD d undef) w' γ) → Q .normal a' w') :
    (Code.region id ops true).wp P Q a w := by
  have hlt : ∀ d, (dstsOf ops).contains d = true → d < a.tmps.size := fun d hd => by
    rw [List.all_eq_true] at hds
    simpa using hds d (by simpa using hd)
  have hout : ∀ b : Act, b.tmps.size = a.tmps.size → ∀ d, ¬ d < a.tmps.size → b.tmps.getD d undef = a.tmps.getD d undef := fun b hb d hd => by
    simp [Array.getD, hb, hd]
  refine wp_region_valsG hm (fun d v w γ => if (dstsOf ops).contains d then (∀ x, T.lookup d = some x → v = x) ∧ G d v w γ else v = a.tmps.getD d undef) J γ0 hJ (fun d _ h => by rw [if_neg (by simpa using h)]) ?_ hb fun a' w' γ e1 e2 hj hv => ?_
  · have key : ∀ (l : List Oper) (k : Nat), (∀ i o, l[i]? = some o → ops[k + i]? = some o) → StepsFrom (StepTG P ops Q T G J a) k l → StepsFrom (StepAtG P ops Q (fun d v w γ => if (dstsOf ops).contains d then (∀ x, T.lookup d = some x → v = x) ∧ G d v w γ else v = a.tmps.getD d undef) J a.tmps.size) k l := by
      intro l
      induction l with
      | nil => exact fun _ _ _ => trivial
      | cons o l ih =>
        intro k hk h
        refine ⟨?_, ih (k + 1) (fun i o h => by rw [show k + 1 + i = k + (i + 1) from by omega]; exact hk (i + 1) o (by simpa using h)) h.2⟩
        intro L b w γ hs hJ hl haft hknow
        have hko := hk 0 o rfl
        have hin : ∀ d, waitsFor ops o d = true → (dstsOf ops).contains d = true := fun d hd => by
          unfold waitsFor at hd
          rw [List.any_eq_true] at hd
          obtain ⟨e, he, hd⟩ := hd
          rw [Bool.and_eq_true] at hd
          have hk2 : (ops[e.on]?).bind (·.dst) = some d := by simpa using hd.2
          obtain ⟨oe, h1, h2⟩ := Option.bind_eq_some_iff.1 hk2
          have : d ∈ dstsOf ops := by
            unfold dstsOf
            rw [List.mem_filterMap]
            exact ⟨oe, by
              obtain ⟨hlt, rfl⟩ := Array.getElem?_eq_some_iff.1 h1
              simp, h2⟩
          simpa using this
        have hw : ∀ d, waitsFor ops o d = true → knowsAt ops o d = true := fun d hd => by
          unfold knowsAt waitsFor at *
          rw [hd, Bool.or_true]
        refine wpOp_mono ?_ (h.1 (by simpa using hko) L b w γ hs hJ hl haft (fun d x hc hx => ?_) (fun d x hw1 hx => ?_) (fun d hw1 => ?_))
        · rintro a2 w2 ⟨v, γ', rfl, hj2, hval, hmono⟩
          refine ⟨v, γ', rfl, hj2, fun d hd => ?_, fun d v hne h => ?_⟩
          · have : (dstsOf ops).contains d = true := by
              have : d ∈ dstsOf ops := by
                unfold dstsOf
                rw [List.mem_filterMap]
                exact ⟨o, by
                  obtain ⟨hlt, rfl⟩ := Array.getElem?_eq_some_iff.1 hko
                  simp, hd⟩
              simpa using this
            simp only [this, if_true]
            exact hval d hd
          · by_cases hc : (dstsOf ops).contains d = true
            · simp only [hc, if_true] at h ⊢
              exact ⟨h.1, hmono d v hne h.2⟩
            · simp only [hc] at h ⊢
              exact h
        · by_cases hd : d < a.tmps.size
          · have := hknow d hd (by unfold knowsAt; rw [hc]; rfl)
            simp only [hc] at this
            rw [← hx]
            simpa using this
          · rw [← hx]
            exact hout b hs d hd
        · have := hknow d (hlt d (hin d hw1)) (hw d hw1)
          simp only [hin d hw1, if_true] at this
          exact this.1 x hx
        · have := hknow d (hlt d (hin d hw1)) (hw d hw1)
          simp only [hin d hw1, if_true] at this
          exact this.2
    exact key ops.toList 0 (fun i o h => by rw [Nat.zero_add]; simpa using h) hsteps
  · refine hend a' w' γ e1 e2 hj (fun d x hc hx => ?_) (fun d x hc hx => ?_) (fun d hc => ?_)
    · by_cases hd : d < a.tmps.size
      · have := hv d hd
        simp only [hc] at this
        rw [← hx]
        simpa using this
      · rw [← hx]
        exact hout a' e2 d hd
    · have := hv d (hlt d hc)
      simp only [hc, if_true] at this
      exact this.1 x hx
    · have := hv d (hlt d hc)
      simp only [hc, if_true] at this
      exact this.2
end
end Go.Proofs.Ytpmhpogkpkhbfaa
