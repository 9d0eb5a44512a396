/-
  A region that draws its order, told slot by slot: wp_region_tab: a table T of what its slots hold, with some told by G; whatever the order. No program. Conditions: none.
  hedgkeep.SkipPlain: the walk: it answers true. Conditions: the list of ops reads as ops (RD); the table of math/bits holds what it is laid with (DTb).
  hedgkeep.SkipPlain: THE STATEMENT: for every input it answers true. Conditions: the table of math/bits holds what the program's text lays (tied on the card).
-/
import Derived.Test.YtfojphaemfbfnaaDoorG1
import Derived.Orders
import Derived.Test.YtfojphaemfbfnaaDoorG25
import Derived.Test.YtfojphaemfbfnaaDoorG2
import Derived.Test.YtfojphaemfbfnaaDoorCards
import Derived.Test.YtfojphaemfbfnaaDoorTie
import Derived.SevenTiedAt

namespace Go.Proofs.YtfojphaemfbfnaaDoor
open Go
set_option linter.unusedVariables false

/-- How many are not listed yet. -/
def openN (L : Array Bool) : Nat := L.toList.countP fun b => !b
theorem countP_set : ∀ (l : List Bool) (i : Nat), l[i]? = some false → (l.set i true).countP (fun b => !b) + 1 = l.countP fun b => !b
  | [], i, h => by simp at h
  | a :: l, 0, h => by
    simp at h
    subst h
    simp
  | a :: l, i + 1, h => by
    have := countP_set l i (by simpa using h)
    simp only [List.set_cons_succ, List.countP_cons]
    omega
theorem openN_set {L : Array Bool} {i : Nat} (hi : i < L.size) (h : L.getD i true = false) : openN (L.setIfInBounds i true) + 1 = openN L := by
  unfold openN
  have h1 : L[i] = false := by simpa [Array.getD, hi] using h
  have h2 : (L.setIfInBounds i true).toList = L.toList.set i true := by simp
  rw [h2]
  exact countP_set _ _ (by simp [hi, h1])
theorem wpAny_inv {P : Program} {ops : Array Oper} {md : Region.Mode} {Q : Exit → Act → World → Prop} (Inv : Array Bool → Act → World → Prop)
    (hstep : ∀ L a w, L.size = ops.size → Inv L a w → ∀ i ∈ Region.ready md ops L, wpOp P ops Q i (Inv (L.setIfInBounds i true)) a w)
    (hend : ∀ L a w, L.size = ops.size → Inv L a w → Region.ready md ops L = [] → Q .normal a w) :
    ∀ fuel L a w, L.size = ops.size → openN L ≤ fuel → Inv L a w → wpAny P md ops Q fuel L a w
  | 0, L, a, w, hs, hf, hi => by
    have hr : Region.ready md ops L = [] := by
      unfold Region.ready
      rw [List.filter_eq_nil_iff]
      intro i hi' hc
      rw [List.mem_range] at hi'
      simp only [Bool.and_eq_true, Bool.not_eq_true'] at hc
      have := openN_set (L := L) (i := i) (by omega) hc.1
      omega
    exact ⟨hr, hend L a w hs hi hr⟩
  | fuel + 1, L, a, w, hs, hf, hi => by
    refine ⟨hend L a w hs hi, fun i hr => ?_⟩
    have hr' := hr
    unfold Region.ready at hr'
    rw [List.mem_filter, List.mem_range] at hr'
    simp only [Bool.and_eq_true, Bool.not_eq_true'] at hr'
    have hc := openN_set (L := L) (i := i) (by omega) hr'.2.1
    refine wpOp_mono (fun a w h => ?_) (hstep L a w hs hi i hr)
    exact wpAny_inv Inv hstep hend fuel _ a w (by simp [hs]) (by omega) h
theorem wp_region_inv {P : Program} {ops : Array Oper} {Q : Exit → Act → World → Prop} {id : Nat} {a : Act} {w : World} (hm : P.follows .mixedOrders = true) (Inv : Array Bool → Act → World → Prop)
    (h0 : Inv (Array.replicate ops.size false) a { w with drawn := w.drawn + 1 })
    (hstep : ∀ L a w, L.size = ops.size → Inv L a w → ∀ i ∈ Region.ready .any ops L, wpOp P ops Q i (Inv (L.setIfInBounds i true)) a w)
    (hend : ∀ L a w, L.size = ops.size → Inv L a w → Region.ready .any ops L = [] → Q .normal a w) : (Code.region id ops true).wp P Q a w :=
  wp_region_any hm (wpAny_inv Inv hstep hend ops.size _ a _ (by simp) (by
    unfold openN
    rw [Array.toList_replicate, List.countP_replicate]; simp) h0)

/-- What a region's slots hold, slot by slot: no order matters. -/
def dstsOf (ops : Array Oper) : List Nat := ops.toList.filterMap (·.dst)
/-- A slot that holds its value when 'o' runs: none of the region's, or one that 'o' waits for. -/
def knowsAt (ops : Array Oper) (o : Oper) (d : Nat) : Bool :=
  !(dstsOf ops).contains d || o.after.toList.any fun e => Region.binds .any e && ((ops[e.on]?).bind (·.dst) == some d)
def ValsAt (ops : Array Oper) (Val : Nat → Value → World → Prop) (J : Array Bool → World → Prop) (n : Nat) (D : List Deferred) (L : Array Bool) (a : Act) (w : World) : Prop :=
  a.defers = D ∧ a.tmps.size = n ∧ J L w ∧ ∀ d, d < n → ((dstsOf ops).contains d = false ∨ ∃ i o, L.getD i false = true ∧ ops[i]? = some o ∧ o.dst = some d) → Val d (a.tmps.getD d undef) w
/-- One operation, with what it may know. -/
def StepAt (P : Program) (ops : Array Oper) (Q : Exit → Act → World → Prop) (Val : Nat → Value → World → Prop) (J : Array Bool → World → Prop) (n : Nat) (i : Nat) (o : Oper) : Prop :=
  ∀ L a w, a.tmps.size = n → J L w → L.getD i true = false → (∀ e ∈ o.after.toList, Region.binds .any e = true → L.getD e.on false = true) → (∀ d, d < n → knowsAt ops o d = true → Val d (a.tmps.getD d undef) w) →
    wpOp P ops Q i (fun a' w' => ∃ v, a' = a.put o.dst v ∧ J (L.setIfInBounds i true) w' ∧ (∀ d, o.dst = some d → Val d v w') ∧ ∀ d v, Val d v w → Val d v w') a w
def StepsFrom (f : Nat → Oper → Prop) : Nat → List Oper → Prop
  | _, [] => True
  | k, o :: os => f k o ∧ StepsFrom f (k + 1) os
theorem StepsFrom.at {f : Nat → Oper → Prop} : ∀ {l : List Oper} {k i : Nat} {o : Oper}, StepsFrom f k l → l[i]? = some o → f (k + i) o
  | [], _, _, _, _, h => by simp at h
  | a :: l, k, 0, o, hs, h => by
    simp at h
    subst h
    exact hs.1
  | a :: l, k, i + 1, o, hs, h => by
    have := StepsFrom.at (i := i) hs.2 (by simpa using h)
    rw [show k + 1 + i = k + (i + 1) from by omega] at this
    exact this
/-- Each waits for earlier ones alone. -/
def backs (ops : Array Oper) : Bool := (List.range ops.size).all fun i => ((ops[i]?).map fun o => o.after.all fun e => !Region.binds .any e || decide (e.on < i)).getD true
theorem all_listed {ops : Array Oper} (hb0 : backs ops = true) {L : Array Bool} (hs : L.size = ops.size) (hr0 : Region.ready .any ops L = []) : ∀ n i, i < n → i < ops.size → L.getD i true = true
  | 0, _, h, _ => by omega
  | n + 1, i, h, hi => by
    cases hL : L.getD i true with
    | true => rfl
    | false =>
      exfalso
      have hb := hb0
      have hr := hr0
      unfold Region.ready at hr
      rw [List.filter_eq_nil_iff] at hr
      refine hr i (by simpa using hi) ?_
      have ho : ops[i]? = some ops[i] := by simp [hi]
      unfold backs at hb
      rw [List.all_eq_true] at hb
      have hb1 := hb i (by simpa using hi)
      rw [ho] at hb1 ⊢
      simp only [Option.map_some, Option.getD_some, hL, Bool.not_false, Bool.true_and] at hb1 ⊢
      rw [Array.all_eq_true'] at hb1 ⊢
      intro e he
      have := hb1 e he
      cases hq : Region.binds .any e with
      | false => rfl
      | true =>
        simp only [hq, Bool.not_true, Bool.false_or, decide_eq_true_eq] at this ⊢
        have h2 := all_listed hb0 hs hr0 n e.on (by omega) (by omega)
        have h3 : e.on < L.size := by omega
        simp only [Array.getD, h3, dif_pos] at h2 ⊢
        exact h2
theorem wp_region_vals {P : Program} {ops : Array Oper} {Q : Exit → Act → World → Prop} {id : Nat} {a : Act} {w : World} (hm : P.follows .mixedOrders = true) (Val : Nat → Value → World → Prop) (J : Array Bool → World → Prop)
    (hJ : J (Array.replicate ops.size false) { w with drawn := w.drawn + 1 })
    (h0 : ∀ d, d < a.tmps.size → (dstsOf ops).contains d = false → Val d (a.tmps.getD d undef) { w with drawn := w.drawn + 1 })
    (hsteps : StepsFrom (StepAt P ops Q Val J a.tmps.size) 0 ops.toList)
    (hb : backs ops = true)
    (hend : ∀ a' w', a'.defers = a.defers → a'.tmps.size = a.tmps.size → J (Array.replicate ops.size true) w' → (∀ d, d < a.tmps.size → Val d (a'.tmps.getD d undef) w') → Q .normal a' w') :
    (Code.region id ops true).wp P Q a w := by
  refine wp_region_inv hm (ValsAt ops Val J a.tmps.size a.defers) ⟨rfl, rfl, hJ, fun d hd h => ?_⟩ ?_ ?_
  · rcases h with h | ⟨i, o, h, _⟩
    · exact h0 d hd h
    · simp [Array.getD, Array.getElem_replicate] at h
  · rintro L a' w' hs ⟨e1, e2, hj, hv⟩ i hr
    unfold Region.ready at hr
    rw [List.mem_filter, List.mem_range] at hr
    obtain ⟨hi, hr⟩ := hr
    simp only [Bool.and_eq_true, Bool.not_eq_true'] at hr
    obtain ⟨hl, hr⟩ := hr
    have ho : ops[i]? = some ops[i] := by simp [hi]
    have hi' : i < L.size := by omega
    generalize ops[i] = o at ho
    rw [ho] at hr
    have haft : ∀ e ∈ o.after.toList, Region.binds .any e = true → L.getD e.on false = true := fun e he hb => by
      have hr2 : (o.after.all fun e => !Region.binds .any e || L.getD e.on false) = true := by simpa using hr
      have := Array.all_eq_true'.1 hr2 e (by simpa using he)
      simpa [hb] using this
    have hst := hsteps.at (i := i) (o := o) (by simpa using ho)
    rw [Nat.zero_add] at hst
    refine wpOp_mono ?_ (hst L a' w' e2 hj hl haft fun d hd hk => hv d hd ?_)
    · rintro a2 w2 ⟨v, rfl, hj2, hval, hmono⟩
      have hsz : (a'.put o.dst v).tmps.size = a'.tmps.size := by
        cases o.dst <;> simp [Act.put]
      refine ⟨?_, by rw [hsz, e2], hj2, fun d hd hk => ?_⟩
      · rw [← e1]
        cases o.dst <;> rfl
      · by_cases hdd : o.dst = some d
        · have : (a'.put o.dst v).tmps.getD d undef = v := by
            rw [hdd]
            simp [Act.put, Array.getD, e2, hd]
          rw [this]
          exact hval d hdd
        · have : (a'.put o.dst v).tmps.getD d undef = a'.tmps.getD d undef := by
            cases hq : o.dst with
            | none => rfl
            | some d2 =>
              have : d2 ≠ d := fun h => hdd (by rw [hq, h])
              simp only [Act.put, Array.getD_eq_getD_getElem?, Array.getElem?_setIfInBounds_ne this]
          rw [this]
          refine hmono d _ (hv d hd ?_)
          rcases hk with hk | ⟨j, oj, h1, h2, h3⟩
          · exact .inl hk
          · by_cases hji : j = i
            · subst hji
              rw [ho] at h2
              injection h2 with h2
              subst h2
              exact absurd h3 hdd
            · refine .inr ⟨j, oj, ?_, h2, h3⟩
              have : (L.setIfInBounds i true).getD j false = L.getD j false := by
                simp only [Array.getD_eq_getD_getElem?, Array.getElem?_setIfInBounds_ne (Ne.symm hji)]
              rw [← this]
              exact h1
    · unfold knowsAt at hk
      rw [Bool.or_eq_true] at hk
      rcases hk with hk | hk
      · exact .inl (by simpa using hk)
      · rw [List.any_eq_true] at hk
        obtain ⟨e, he, hk⟩ := hk
        rw [Bool.and_eq_true] at hk
        have hk2 : (ops[e.on]?).bind (·.dst) = some d := by simpa using hk.2
        obtain ⟨oe, h1, h2⟩ := Option.bind_eq_some_iff.1 hk2
        exact .inr ⟨e.on, oe, haft e he hk.1, h1, h2⟩
  · rintro L a' w' hs ⟨e1, e2, hj, hv⟩ hr
    have hall := fun i h => all_listed hb hs hr ops.size i h h
    have hL : L = Array.replicate ops.size true := by
      apply Array.ext (by simp [hs])
      intro i h1 h2
      have := hall i (by omega)
      simpa [Array.getD, h1] using this
    refine hend a' w' e1 e2 (hL ▸ hj) fun d hd => hv d hd ?_
    cases hc : (dstsOf ops).contains d with
    | false => exact .inl rfl
    | true =>
      right
      have hm : d ∈ dstsOf ops := by simpa using hc
      unfold dstsOf at hm
      rw [List.mem_filterMap] at hm
      obtain ⟨o, ho, hod⟩ := hm
      obtain ⟨i, hi, rfl⟩ := List.mem_iff_getElem.1 ho
      have hi' : i < ops.size := by simpa using hi
      refine ⟨i, ops[i], ?_, by simp [hi'], by simpa using hod⟩
      have := hall i hi'
      have h3 : i < L.size := by omega
      simpa [Array.getD, h3] using this
section
variable {P : Program} {ops : Array Oper} {Q : Exit → Act → World → Prop} {Val : Nat → Value → World → Prop} {K : Act → World → Prop} {i : Nat} {o : Oper} {a : Act} {w : World}
/-- An operation that yields a value. -/
theorem wpOp_value (ho : ops[i]? = some o) (hw : Region.wanted o (yielded ops a.tmps) = true) {v : Value} {w' : World} (hr : (execOp a.eval o).run P w = .ok (.value v) w') (h : K (a.put o.dst v) w') : wpOp P ops Q i K a w := by
  unfold wpOp
  simp only [ho, hw, if_true, Oper.wp, hr, Oper.upon]
  exact .inl h
/-- An operation that is not wanted. -/
theorem wpOp_not (ho : ops[i]? = some o) (hw : Region.wanted o (yielded ops a.tmps) = false) (h : K (a.put o.dst undef) w) : wpOp P ops Q i K a w := by
  unfold wpOp
  simp only [ho, hw, Bool.false_eq_true, if_false]
  exact h
/-- A call. -/
theorem wpOp_call (ho : ops[i]? = some o) (hw : Region.wanted o (yielded ops a.tmps) = true) {f : FuncId} {args : Array Value} {w' : World} (hr : (execOp a.eval o).run P w = .ok (.enter f args) w') {R : Ending → World → Prop}
    (hc : Calls P f args w' R) (h : ∀ r w2, R r w2 → ∃ v, r = .returned v ∧ K (a.put o.dst v) w2) : wpOp P ops Q i K a w := by
  unfold wpOp
  simp only [ho, hw, if_true, Oper.wp, hr, Oper.upon]
  refine .inl (hc.mono fun r w2 hR => ?_)
  obtain ⟨v, rfl, hk⟩ := h r w2 hR
  exact hk
end

/-- A slot of the region that 'o' waits for. -/
def waitsFor (ops : Array Oper) (o : Oper) (d : Nat) : Bool := o.after.toList.any fun e => Region.binds .any e && ((ops[e.on]?).bind (·.dst) == some d)
/-- One operation of a region whose slots are told by a table T, but for some that are told by G. -/
def StepT (P : Program) (ops : Array Oper) (Q : Exit → Act → World → Prop) (T : List (Nat × Value)) (G : Nat → Value → World → Prop) (J : Array Bool → World → Prop) (a0 : Act) (i : Nat) (o : Oper) : Prop :=
  ops[i]? = some o → ∀ L a w, a.tmps.size = a0.tmps.size → J L w → L.getD i true = false → (∀ e ∈ o.after.toList, Region.binds .any e = true → L.getD e.on false = true) →
    (∀ d x, (dstsOf ops).contains d = false → a0.tmps.getD d undef = x → a.tmps.getD d undef = x) →
    (∀ d x, waitsFor ops o d = true → T.lookup d = some x → a.tmps.getD d undef = x) →
    (∀ d, waitsFor ops o d = true → G d (a.tmps.getD d undef) w) →
    wpOp P ops Q i (fun a' w' => ∃ v, a' = a.put o.dst v ∧ J (L.setIfInBounds i true) w' ∧ (∀ d, o.dst = some d → (∀ x, T.lookup d = some x → v = x) ∧ G d v w') ∧ ∀ d v, G d v w → G d v w') a w
theorem wp_region_tab {P : Program} {ops : Array Oper} {Q : Exit → Act → World → Prop} {id : Nat} {a : Act} {w : World} (hm : P.follows .mixedOrders = true) (T : List (Nat × Value)) (G : Nat → Value → World → Prop) (J : Array Bool → World → Prop)
    (hJ : J (Array.replicate ops.size false) { w with drawn := w.drawn + 1 }) (hb : backs ops = true) (hds : ((dstsOf ops).all fun d => decide (d < a.tmps.size)) = true)
    (hsteps : StepsFrom (StepT P ops Q T G J a) 0 ops.toList)
    (hend : ∀ a' w', a'.defers = a.defers → a'.tmps.size = a.tmps.size → J (Array.replicate ops.size true) w' →
      (∀ d x, (dstsOf ops).contains d = false → a.tmps.getD d undef = x → a'.tmps.getD d undef = x) →
      (∀ d x, (dstsOf ops).contains d = true → T.lookup d = some x → a'.tmps.getD d undef = x) →
      (∀ d, (dstsOf ops).contains d = true → G d (a'.tmps.getD d undef) w') → Q .normal a' w') :
    (Code.region id ops true).wp P Q a w := by
  have hlt : ∀ d, (dstsOf ops).contains d = true → d < a.tmps.size := fun d hd => by
    rw [List.all_eq_true] at hds
    simpa using hds d (by simpa using hd)
  have hout : ∀ b : Act, b.tmps.size = a.tmps.size → ∀ d, ¬ d < a.tmps.size → b.tmps.getD d undef = a.tmps.getD d undef := fun b hb d hd => by
    simp [Array.getD, hb, hd]
  refine wp_region_vals hm (fun d v w => if (dstsOf ops).contains d then (∀ x, T.lookup d = some x → v = x) ∧ G d v w else v = a.tmps.getD d undef) J hJ (fun d _ h => by rw [if_neg (by simpa using h)]) ?_ hb fun a' w' e1 e2 hj hv => ?_
  · have key : ∀ (l : List Oper) (k : Nat), (∀ i o, l[i]? = some o → ops[k + i]? = some o) → StepsFrom (StepT P ops Q T G J a) k l → StepsFrom (StepAt P ops Q (fun d v w => if (dstsOf ops).contains d then (∀ x, T.lookup d = some x → v = x) ∧ G d v w else v = a.tmps.getD d undef) J a.tmps.size) k l := by
      intro l
      induction l with
      | nil => exact fun _ _ _ => trivial
      | cons o l ih =>
        intro k hk h
        refine ⟨?_, ih (k + 1) (fun i o h => by rw [show k + 1 + i = k + (i + 1) from by omega]; exact hk (i + 1) o (by simpa using h)) h.2⟩
        intro L b w hs hJ hl haft hknow
        have hko := hk 0 o rfl
        have hin : ∀ d, waitsFor ops o d = true → (dstsOf ops).contains d = true := fun d hd => by
          unfold waitsFor at hd
          rw [List.any_eq_true] at hd
          obtain ⟨e, he, hd⟩ := hd
          rw [Bool.and_eq_true] at hd
          have hk2 : (ops[e.on]?).bind (·.dst) = some d := by simpa using hd.2
          obtain ⟨oe, h1, h2⟩ := Option.bind_eq_some_iff.1 hk2
          have : d ∈ dstsOf ops := by
            unfold dstsOf
            rw [List.mem_filterMap]
            exact ⟨oe, by
              obtain ⟨hlt, rfl⟩ := Array.getElem?_eq_some_iff.1 h1
              simp, h2⟩
          simpa using this
        have hw : ∀ d, waitsFor ops o d = true → knowsAt ops o d = true := fun d hd => by
          unfold knowsAt waitsFor at *
          rw [hd, Bool.or_true]
        refine wpOp_mono ?_ (h.1 (by simpa using hko) L b w hs hJ hl haft (fun d x hc hx => ?_) (fun d x hw1 hx => ?_) (fun d hw1 => ?_))
        · rintro a2 w2 ⟨v, rfl, hj2, hval, hmono⟩
          refine ⟨v, rfl, hj2, fun d hd => ?_, fun d v h => ?_⟩
          · have : (dstsOf ops).contains d = true := by
              have : d ∈ dstsOf ops := by
                unfold dstsOf
                rw [List.mem_filterMap]
                exact ⟨o, by
                  obtain ⟨hlt, rfl⟩ := Array.getElem?_eq_some_iff.1 hko
                  simp, hd⟩
              simpa using this
            simp only [this, if_true]
            exact hval d hd
          · by_cases hc : (dstsOf ops).contains d = true
            · simp only [hc, if_true] at h ⊢
              exact ⟨h.1, hmono d v h.2⟩
            · simp only [hc] at h ⊢
              exact h
        · by_cases hd : d < a.tmps.size
          · have := hknow d hd (by unfold knowsAt; rw [hc]; rfl)
            simp only [hc] at this
            rw [← hx]
            simpa using this
          · rw [← hx]
            exact hout b hs d hd
        · have := hknow d (hlt d (hin d hw1)) (hw d hw1)
          simp only [hin d hw1, if_true] at this
          exact this.1 x hx
        · have := hknow d (hlt d (hin d hw1)) (hw d hw1)
          simp only [hin d hw1, if_true] at this
          exact this.2
    exact key ops.toList 0 (fun i o h => by rw [Nat.zero_add]; simpa using h) hsteps
  · refine hend a' w' e1 e2 hj (fun d x hc hx => ?_) (fun d x hc hx => ?_) (fun d hc => ?_)
    · by_cases hd : d < a.tmps.size
      · have := hv d hd
        simp only [hc] at this
        rw [← hx]
        simpa using this
      · rw [← hx]
        exact hout a' e2 d hd
    · have := hv d (hlt d hc)
      simp only [hc, if_true] at this
      exact this.1 x hx
    · have := hv d (hlt d hc)
      simp only [hc, if_true] at this
      exact this.2
theorem arr_eq {A : Array Value} {n : Nat} (h : A.size = n) : A = ((List.range n).map fun d => A.getD d undef).toArray := by
  subst h
  apply Array.ext (by simp)
  intro i h1 h2
  simp [Array.getD, h1]
theorem tab {T : List (Nat × Value)} {d : Nat} {v : Value} (h : T.lookup d = some v) : ∀ x, T.lookup d = some x → v = x := fun x hx => Option.some.inj (h.symm.trans hx)
theorem tab_none {T : List (Nat × Value)} {d : Nat} {v : Value} (h : T.lookup d = none) : ∀ x, T.lookup d = some x → v = x := fun x hx => by rw [h] at hx; cases hx
theorem wanted_none {o : Oper} {y : Nat → Option Bool} (h : o.guard = none) : Region.wanted o y = true := by
  unfold Region.wanted
  rw [h]
theorem wanted_bool {ops : Array Oper} {o : Oper} {a : Act} {j d : Nat} {want b : Bool} (h : o.guard = some (j, want)) (hd : (ops[j]?).bind (·.dst) = some d) (hv : a.tmps.getD d undef = .bool b) : Region.wanted o (yielded ops a.tmps) = (b == want) := by
  have hs : d < a.tmps.size := by
    refine Decidable.byContradiction fun h => ?_
    simp [Array.getD, h] at hv
    cases hv
  unfold Region.wanted yielded
  rw [h]
  have : a.tmps[d]? = some (.bool b) := by
    rw [← hv]
    simp [Array.getD, hs]
  simp [hd, this]
theorem wanted_undef {ops : Array Oper} {o : Oper} {a : Act} {j d : Nat} {want : Bool} (h : o.guard = some (j, want)) (hd : (ops[j]?).bind (·.dst) = some d) (hv : a.tmps.getD d undef = undef) : Region.wanted o (yielded ops a.tmps) = false := by
  unfold Region.wanted yielded
  rw [h]
  cases hs : a.tmps[d]? with
  | none => simp [hd, hs]
  | some v =>
    have : v = undef := by
      rw [← hv]
      simp [Array.getD_eq_getD_getElem?, hs]
    subst this
    simp [hd, hs, undef]
theorem run_v {P : Program} {s : Sem Value} {w w' : World} {v : Value} (h : s.run P w = .ok v w') : (do pure (Next.value (← s)) : Sem Next).run P w = .ok (.value v) w' := by
  simp [h]
end Go.Proofs.YtfojphaemfbfnaaDoor
namespace Go.Proofs.YtfojphaemfbfnaaDoor
open Go.ChangeShapes Go.WideShapes Go.ChangeAt Go.RowKit
set_option linter.unusedVariables false
set_option linter.unusedSimpArgs false

set_option maxRecDepth 100000 in
set_option maxHeartbeats 8000000 in
theorem skipPlain_walk (ops : List O3) (v : Value) (w : World) (hr : RD w eOp v ops) (hdb : DTb w) : Calls Tryd.prog 8 #[v] w (Ret (.bool true) w) := by
  obtain ⟨A, c, rfl, hc, hm⟩ := hr.shape
  have h0 : 0 < w.heap.size := World.block_lt_of_cell? _ _ (hdb 0 (by omega))
  have HR := hide hr
  have HDB := hide hdb
  have HPL := hide (run_any ops _ w hr)
  have HRU := hide (fun W (h : Kp w W) => skRun_any ops _ W (hr.kp h) (hdb.kp h) (Nat.lt_of_lt_of_le h0 h.size))
  rw [skRun_eq] at HRU
  unfold runOf at HPL
  clear hr hdb h0
  by_cases hlen : ops.length > 300
  · rw [if_pos hlen] at HRU HPL
    go_enter Tryd.func8, Tryd.ntmps8
    go_wp2_with fail
    with_reducible refine HPL.out.mono ?_
    rintro e w1 ⟨v1, u1, rfl, hr1, hu1, hb1⟩
    have kk1 : Kp w w1 := Kp.of hb1
    have HR1 := hide hr1
    have HU1 := hide hu1
    clear hr1 hu1 hb1
    go_wp2_with fail
    with_reducible refine (HRU.out _ kk1).mono ?_
    rintro e w2 ⟨v2, u2, rfl, hr2, hu2, kk2⟩
    have HR2 := hide hr2
    have HU2 := hide hu2
    clear hr2 hu2
    clear HU1 HU2 HR1 HR2
    go_wp2_with fail
    with_reducible refine (skipLives_any _ (HDB.out.kp (kk1.trans kk2))).mono ?_
    rintro e w3 ⟨rfl, hb3⟩
    have kk3 : Kp w2 w3 := Kp.of hb3
    clear hb3
    go_wp2
    go_ret
    exact ⟨rfl, (kk1.trans (kk2.trans kk3)).bel⟩
  · rw [if_neg hlen] at HRU HPL
    have hml : ((runL ops).1.map Prod.fst).length ≤ 200 := (krL_in (runL_keys ops)).1
    obtain ⟨R, hR⟩ : ∃ R, R = runL ops := ⟨_, rfl⟩
    rw [← hR] at HRU HPL hml
    obtain ⟨m, b⟩ := R
    simp only at HRU HPL hml
    have HMK := hide (fun v W h => mapKeys_any m v W h (by simp at hml; omega))
    obtain ⟨ks, hks⟩ : ∃ ks, ks = m.map Prod.fst := ⟨_, rfl⟩
    rw [← hks] at HRU HMK hml
    by_cases hk : ks = []
    · have hm0 : m = [] := by rw [hk] at hks; exact List.map_eq_nil_iff.1 hks.symm
      rw [hk, rowsN_nil] at HRU
      rw [hm0] at HPL
      clear hk hm0 hks hml hR HMK
      go_enter Tryd.func8, Tryd.ntmps8
      go_wp2_with fail
      with_reducible refine HPL.out.mono ?_
      rintro e w1 ⟨v1, u1, rfl, hr1, hu1, hb1⟩
      have kk1 : Kp w w1 := Kp.of hb1
      have HR1 := hide hr1
      have HU1 := hide hu1
      clear hr1 hu1 hb1
      go_wp2_with fail
      with_reducible refine (HRU.out _ kk1).mono ?_
      rintro e w2 ⟨v2, u2, rfl, hr2, hu2, kk2⟩
      have HR2 := hide hr2
      have HU2 := hide hu2
      clear hr2 hu2
      obtain ⟨A1, c1, hv1, _, _⟩ := HR1.out.shape
      subst hv1
      obtain ⟨A2, c2, hv2, _, _⟩ := HR2.out.shape
      subst hv2
      go_wp2_with fail
      with_reducible refine (skipLives_any _ (HDB.out.kp (kk1.trans kk2))).mono ?_
      rintro e w3 ⟨rfl, hb3⟩
      have kk3 : Kp w2 w3 := Kp.of hb3
      clear hb3
      have HE := hide (fun W (h : Kp w3 W) => eqAns_same b u1 u2 W (HU1.out.kp (kk2.trans (kk3.trans h))) (HU2.out.kp (kk3.trans h)))
      go_wp2_with fail
      refine wp_region_tab (by kernel_rfl) [(30, u1), (31, u2), (32, .bool true), (33, .bool true), (34, .slice A1 0 c1), (35, .int .i64 0), (36, .bool true), (37, .bool true), (38, .slice A2 0 c2), (39, .int .i64 0), (40, .bool true), (41, .bool true), (42, .bool true), (43, undef), (44, undef), (45, undef), (46, undef), (47, undef), (48, undef), (49, undef), (50, undef), (51, undef), (52, undef), (53, undef), (54, .bool true), (55, .bool true), (2, .bool true)] (fun _ _ _ => True) (fun _ W => Kp w3 W) (Kp.drew (Kp.refl w3)) (by kernel_rfl) (by kernel_rfl) ?_ ?_
      · refine ⟨?_, ?_, ?_, ?_, ?_, ?_, ?_, ?_, ?_, ?_, ?_, ?_, ?_, ?_, ?_, ?_, ?_, ?_, ?_, ?_, ?_, ?_, ?_, ?_, ?_, ?_, ?_, trivial⟩
        · intro hop L a w5 hs hk hl ha keep know spec
          have h4 := keep 4 (u1) (by kernel_rfl) rfl
          exact wpOp_value hop (wanted_none rfl) (v := u1) (by simp only [execOp, Act.eval, h4]; rfl) ⟨_, rfl, hk, (fun d hd => by injection hd with hd; subst hd; exact ⟨tab rfl, trivial⟩), fun _ _ h => h⟩
        · intro hop L a w5 hs hk hl ha keep know spec
          have h7 := keep 7 (u2) (by kernel_rfl) rfl
          exact wpOp_value hop (wanted_none rfl) (v := u2) (by simp only [execOp, Act.eval, h7]; rfl) ⟨_, rfl, hk, (fun d hd => by injection hd with hd; subst hd; exact ⟨tab rfl, trivial⟩), fun _ _ h => h⟩
        · intro hop L a w5 hs hk hl ha keep know spec
          have h30 := know 30 (u1) (by kernel_rfl) rfl
          have h31 := know 31 (u2) (by kernel_rfl) rfl
          exact wpOp_call hop (wanted_none rfl) (by simp only [execOp, resolve, Act.eval, List.map_toArray, List.map_cons, List.map_nil, h30, h31]; rfl) (HE.out w5 hk) fun r w6 hR => by
            obtain ⟨rfl, hb6⟩ := hR
            exact ⟨_, rfl, _, rfl, hk.trans (Kp.of hb6), (fun d hd => by injection hd with hd; subst hd; exact ⟨tab rfl, trivial⟩), fun _ _ h => h⟩
        · intro hop L a w5 hs hk hl ha keep know spec
          have h32 := know 32 (.bool true) (by kernel_rfl) rfl
          exact wpOp_value hop (wanted_none rfl) (v := .bool true) (by simp only [execOp, Act.eval, h32]; rfl) ⟨_, rfl, hk, (fun d hd => by injection hd with hd; subst hd; exact ⟨tab rfl, trivial⟩), fun _ _ h => h⟩
        · intro hop L a w5 hs hk hl ha keep know spec
          have h3 := keep 3 (.slice A1 0 c1) (by kernel_rfl) rfl
          have hg := know 33 (.bool true) (by kernel_rfl) rfl
          exact wpOp_value hop ((wanted_bool rfl rfl hg).trans rfl) (v := .slice A1 0 c1) (by simp only [execOp, Act.eval, h3]; rfl) ⟨_, rfl, hk, (fun d hd => by injection hd with hd; subst hd; exact ⟨tab rfl, trivial⟩), fun _ _ h => h⟩
        · intro hop L a w5 hs hk hl ha keep know spec
          have h34 := know 34 (.slice A1 0 c1) (by kernel_rfl) rfl
          have hg := know 33 (.bool true) (by kernel_rfl) rfl
          exact wpOp_value hop ((wanted_bool rfl rfl hg).trans rfl) (v := .int .i64 0) (by simp only [execOp, resolve, Act.eval, List.map_toArray, List.map_cons, List.map_nil, h34]; go_simp) ⟨_, rfl, hk, (fun d hd => by injection hd with hd; subst hd; exact ⟨tab rfl, trivial⟩), fun _ _ h => h⟩
        · intro hop L a w5 hs hk hl ha keep know spec
          have h35 := know 35 (.int .i64 0) (by kernel_rfl) rfl
          have hg := know 33 (.bool true) (by kernel_rfl) rfl
          exact wpOp_value hop ((wanted_bool rfl rfl hg).trans rfl) (v := .bool true) (by simp only [execOp, Act.eval, h35]; rfl) ⟨_, rfl, hk, (fun d hd => by injection hd with hd; subst hd; exact ⟨tab rfl, trivial⟩), fun _ _ h => h⟩
        · intro hop L a w5 hs hk hl ha keep know spec
          have h36 := know 36 (.bool true) (by kernel_rfl) rfl
          have hg := know 33 (.bool true) (by kernel_rfl) rfl
          exact wpOp_value hop ((wanted_bool rfl rfl hg).trans rfl) (v := .bool true) (by simp only [execOp, Act.eval, h36]; rfl) ⟨_, rfl, hk, (fun d hd => by injection hd with hd; subst hd; exact ⟨tab rfl, trivial⟩), fun _ _ h => h⟩
        · intro hop L a w5 hs hk hl ha keep know spec
          have h6 := keep 6 (.slice A2 0 c2) (by kernel_rfl) rfl
          have hg := know 37 (.bool true) (by kernel_rfl) rfl
          exact wpOp_value hop ((wanted_bool rfl rfl hg).trans rfl) (v := .slice A2 0 c2) (by simp only [execOp, Act.eval, h6]; rfl) ⟨_, rfl, hk, (fun d hd => by injection hd with hd; subst hd; exact ⟨tab rfl, trivial⟩), fun _ _ h => h⟩
        · intro hop L a w5 hs hk hl ha keep know spec
          have h38 := know 38 (.slice A2 0 c2) (by kernel_rfl) rfl
          have hg := know 37 (.bool true) (by kernel_rfl) rfl
          exact wpOp_value hop ((wanted_bool rfl rfl hg).trans rfl) (v := .int .i64 0) (by simp only [execOp, resolve, Act.eval, List.map_toArray, List.map_cons, List.map_nil, h38]; go_simp) ⟨_, rfl, hk, (fun d hd => by injection hd with hd; subst hd; exact ⟨tab rfl, trivial⟩), fun _ _ h => h⟩
        · intro hop L a w5 hs hk hl ha keep know spec
          have h39 := know 39 (.int .i64 0) (by kernel_rfl) rfl
          have hg := know 37 (.bool true) (by kernel_rfl) rfl
          exact wpOp_value hop ((wanted_bool rfl rfl hg).trans rfl) (v := .bool true) (by simp only [execOp, Act.eval, h39]; rfl) ⟨_, rfl, hk, (fun d hd => by injection hd with hd; subst hd; exact ⟨tab rfl, trivial⟩), fun _ _ h => h⟩
        · intro hop L a w5 hs hk hl ha keep know spec
          have h37 := know 37 (.bool true) (by kernel_rfl) rfl
          have h40 := know 40 (.bool true) (by kernel_rfl) rfl
          have hg := know 33 (.bool true) (by kernel_rfl) rfl
          exact wpOp_value hop ((wanted_bool rfl rfl hg).trans rfl) (v := .bool true) (by simp only [execOp, Act.eval, h37, h40]; rfl) ⟨_, rfl, hk, (fun d hd => by injection hd with hd; subst hd; exact ⟨tab rfl, trivial⟩), fun _ _ h => h⟩
        · intro hop L a w5 hs hk hl ha keep know spec
          have h41 := know 41 (.bool true) (by kernel_rfl) rfl
          have hg := know 33 (.bool true) (by kernel_rfl) rfl
          exact wpOp_value hop ((wanted_bool rfl rfl hg).trans rfl) (v := .bool true) (by simp only [execOp, Act.eval, h41]; rfl) ⟨_, rfl, hk, (fun d hd => by injection hd with hd; subst hd; exact ⟨tab rfl, trivial⟩), fun _ _ h => h⟩
        · intro hop L a w5 hs hk hl ha keep know spec
          have hg := know 42 (.bool true) (by kernel_rfl) rfl
          exact wpOp_not hop ((wanted_bool rfl rfl hg).trans rfl) ⟨_, rfl, hk, (fun d hd => by injection hd with hd; subst hd; exact ⟨tab rfl, trivial⟩), fun _ _ h => h⟩
        · intro hop L a w5 hs hk hl ha keep know spec
          have hg := know 42 (.bool true) (by kernel_rfl) rfl
          exact wpOp_not hop ((wanted_bool rfl rfl hg).trans rfl) ⟨_, rfl, hk, (fun d hd => by injection hd with hd; subst hd; exact ⟨tab rfl, trivial⟩), fun _ _ h => h⟩
        · intro hop L a w5 hs hk hl ha keep know spec
          have hg := know 42 (.bool true) (by kernel_rfl) rfl
          exact wpOp_not hop ((wanted_bool rfl rfl hg).trans rfl) ⟨_, rfl, hk, (fun d hd => by injection hd with hd; subst hd; exact ⟨tab rfl, trivial⟩), fun _ _ h => h⟩
        · intro hop L a w5 hs hk hl ha keep know spec
          have hg := know 42 (.bool true) (by kernel_rfl) rfl
          exact wpOp_not hop ((wanted_bool rfl rfl hg).trans rfl) ⟨_, rfl, hk, (fun d hd => by injection hd with hd; subst hd; exact ⟨tab rfl, trivial⟩), fun _ _ h => h⟩
        · intro hop L a w5 hs hk hl ha keep know spec
          have hg := know 46 (undef) (by kernel_rfl) rfl
          exact wpOp_not hop (wanted_undef rfl rfl hg) ⟨_, rfl, hk, (fun d hd => by injection hd with hd; subst hd; exact ⟨tab rfl, trivial⟩), fun _ _ h => h⟩
        · intro hop L a w5 hs hk hl ha keep know spec
          have hg := know 46 (undef) (by kernel_rfl) rfl
          exact wpOp_not hop (wanted_undef rfl rfl hg) ⟨_, rfl, hk, (fun d hd => by injection hd with hd; subst hd; exact ⟨tab rfl, trivial⟩), fun _ _ h => h⟩
        · intro hop L a w5 hs hk hl ha keep know spec
          have hg := know 46 (undef) (by kernel_rfl) rfl
          exact wpOp_not hop (wanted_undef rfl rfl hg) ⟨_, rfl, hk, (fun d hd => by injection hd with hd; subst hd; exact ⟨tab rfl, trivial⟩), fun _ _ h => h⟩
        · intro hop L a w5 hs hk hl ha keep know spec
          have hg := know 46 (undef) (by kernel_rfl) rfl
          exact wpOp_not hop (wanted_undef rfl rfl hg) ⟨_, rfl, hk, (fun d hd => by injection hd with hd; subst hd; exact ⟨tab rfl, trivial⟩), fun _ _ h => h⟩
        · intro hop L a w5 hs hk hl ha keep know spec
          have hg := know 46 (undef) (by kernel_rfl) rfl
          exact wpOp_not hop (wanted_undef rfl rfl hg) ⟨_, rfl, hk, (fun d hd => by injection hd with hd; subst hd; exact ⟨tab rfl, trivial⟩), fun _ _ h => h⟩
        · intro hop L a w5 hs hk hl ha keep know spec
          have hg := know 46 (undef) (by kernel_rfl) rfl
          exact wpOp_not hop (wanted_undef rfl rfl hg) ⟨_, rfl, hk, (fun d hd => by injection hd with hd; subst hd; exact ⟨tab rfl, trivial⟩), fun _ _ h => h⟩
        · intro hop L a w5 hs hk hl ha keep know spec
          have hg := know 42 (.bool true) (by kernel_rfl) rfl
          exact wpOp_not hop ((wanted_bool rfl rfl hg).trans rfl) ⟨_, rfl, hk, (fun d hd => by injection hd with hd; subst hd; exact ⟨tab rfl, trivial⟩), fun _ _ h => h⟩
        · intro hop L a w5 hs hk hl ha keep know spec
          have h42 := know 42 (.bool true) (by kernel_rfl) rfl
          have h53 := know 53 (undef) (by kernel_rfl) rfl
          have hg := know 33 (.bool true) (by kernel_rfl) rfl
          exact wpOp_value hop ((wanted_bool rfl rfl hg).trans rfl) (v := .bool true) (by simp only [execOp, Act.eval, h42, h53]; rfl) ⟨_, rfl, hk, (fun d hd => by injection hd with hd; subst hd; exact ⟨tab rfl, trivial⟩), fun _ _ h => h⟩
        · intro hop L a w5 hs hk hl ha keep know spec
          have h33 := know 33 (.bool true) (by kernel_rfl) rfl
          have h54 := know 54 (.bool true) (by kernel_rfl) rfl
          exact wpOp_value hop (wanted_none rfl) (v := .bool true) (by simp only [execOp, Act.eval, h33, h54]; rfl) ⟨_, rfl, hk, (fun d hd => by injection hd with hd; subst hd; exact ⟨tab rfl, trivial⟩), fun _ _ h => h⟩
        · intro hop L a w5 hs hk hl ha keep know spec
          have h55 := know 55 (.bool true) (by kernel_rfl) rfl
          exact wpOp_value hop (wanted_none rfl) (v := .bool true) (by simp only [execOp, Act.eval, h55]; rfl) ⟨_, rfl, hk, (fun d hd => by injection hd with hd; subst hd; exact ⟨tab rfl, trivial⟩), fun _ _ h => h⟩
      · intro a' w5 e1 e2 hk keep know spec
        obtain ⟨tm, df⟩ := a'
        have k2 := know 2 (.bool true) (by kernel_rfl) rfl
        clear keep know spec
        obtain ⟨x0, x1, x2, x3, x4, x5, x6, x7, x8, x9, x10, x11, x12, x13, x14, x15, x16, x17, x18, x19, x20, x21, x22, x23, x24, x25, x26, x27, x28, x29, x30, x31, x32, x33, x34, x35, x36, x37, x38, x39, x40, x41, x42, x43, x44, x45, x46, x47, x48, x49, x50, x51, x52, x53, x54, x55, hE⟩ : ∃ x0 x1 x2 x3 x4 x5 x6 x7 x8 x9 x10 x11 x12 x13 x14 x15 x16 x17 x18 x19 x20 x21 x22 x23 x24 x25 x26 x27 x28 x29 x30 x31 x32 x33 x34 x35 x36 x37 x38 x39 x40 x41 x42 x43 x44 x45 x46 x47 x48 x49 x50 x51 x52 x53 x54 x55, tm = #[x0, x1, x2, x3, x4, x5, x6, x7, x8, x9, x10, x11, x12, x13, x14, x15, x16, x17, x18, x19, x20, x21, x22, x23, x24, x25, x26, x27, x28, x29, x30, x31, x32, x33, x34, x35, x36, x37, x38, x39, x40, x41, x42, x43, x44, x45, x46, x47, x48, x49, x50, x51, x52, x53, x54, x55] := ⟨_, _, _, _, _, _, _, _, _, _, _, _, _, _, _, _, _, _, _, _, _, _, _, _, _, _, _, _, _, _, _, _, _, _, _, _, _, _, _, _, _, _, _, _, _, _, _, _, _, _, _, _, _, _, _, _, arr_eq e2⟩
        subst hE
        have k2' : x2 = .bool true := k2
        subst k2'
        have e1' : df = [] := e1
        subst e1'
        clear e1 e2 k2
        go_wp2
        go_ret
        exact ⟨rfl, (kk1.trans (kk2.trans (kk3.trans hk))).bel⟩
    · obtain ⟨T, hT, hrow⟩ := rows_sk hk
      rw [hrow] at HRU
      have hml2 : 0 < m.length := by
        cases m with
        | nil => exact absurd (by rw [hks]; rfl) hk
        | cons a l => simp
      have HKS := hide hks
      clear hk hks hml hR hrow
      go_enter Tryd.func8, Tryd.ntmps8
      go_wp2_with fail
      with_reducible refine HPL.out.mono ?_
      rintro e w1 ⟨v1, u1, rfl, hr1, hu1, hb1⟩
      have kk1 : Kp w w1 := Kp.of hb1
      have HR1 := hide hr1
      have HU1 := hide hu1
      clear hr1 hu1 hb1
      go_wp2_with fail
      with_reducible refine (HRU.out _ kk1).mono ?_
      rintro e w2 ⟨v2, u2, rfl, hr2, hu2, kk2⟩
      have HR2 := hide hr2
      have HU2 := hide hu2
      clear hr2 hu2
      obtain ⟨A1, c1, hv1, _, _⟩ := HR1.out.shape
      subst hv1
      obtain ⟨A2, c2, hv2, _, _⟩ := HR2.out.shape
      subst hv2
      obtain ⟨b2, o2, u0, hA2, _, cx, rx⟩ := HR2.out.at_ (k := 0) (by simp)
      subst hA2
      obtain ⟨N, hN⟩ : ∃ N, N = (ks :: T).length := ⟨_, rfl⟩
      have hN0 : 0 < N := by rw [hN]; simp
      rw [← hN] at HR2 ⊢
      have dN : decide (0 < N) = true := decide_eq_true hN0
      have dN2 : ((N : Int) == 0) = false := beq_eq_false_iff_ne.2 (by omega)
      have dM : ((m.length : Int) == 0) = false := beq_eq_false_iff_ne.2 (by omega)
      have hN0i : (0 : Int) < (N : Int) := by omega
      simp only [List.getElem_cons_zero] at rx
      have HRX := hide rx
      clear hN hml2 rx
      go_wp2_with fail
      with_reducible refine (skipLives_any _ (HDB.out.kp (kk1.trans kk2))).mono ?_
      rintro e w3 ⟨rfl, hb3⟩
      have kk3 : Kp w2 w3 := Kp.of hb3
      clear hb3
      have HE := hide (fun W (h : Kp w3 W) => eqAns_same b u1 u2 W (HU1.out.kp (kk2.trans (kk3.trans h))) (HU2.out.kp (kk3.trans h)))
      have cx3 := kk3.cell cx
      have HMK3 := hide (fun W (h : Kp w3 W) => HMK.out _ W (HR1.out.kp (kk2.trans (kk3.trans h))))
      have HEQ := hide (fun v W (h : Kp w3 W) (hv : RD W eInt v ks) => eqInts_to ks ks true u0 v W (HRX.out.kp (kk3.trans h)) hv (by simp))
      rw [Nat.add_zero] at cx3 cx
      have RLD : ∀ W, Kp w3 W → (Instr.loadAt 22 (.pointer (some ⟨b2, o2, none⟩))).run Tryd.prog W = .ok u0 W := fun W k => by
        have cx5 := k.cell cx3
        go_simp
      have RIX : ∀ W, (Instr.indexAt 23 (.slice (some ⟨b2, o2, none⟩) N c2) (.int .i64 0)).run Tryd.prog W = .ok (.pointer (some ⟨b2, o2, none⟩)) W := fun W => by
        go_simp
      have dNi : decide ((0 : Int) < (N : Int)) = true := decide_eq_true hN0i
      go_wp2_with fail
      refine wp_region_tab (by kernel_rfl) [(30, u1), (31, u2), (32, .bool true), (33, .bool true), (34, .slice A1 m.length c1), (35, .int .i64 (m.length : Int)), (36, .bool false), (37, .bool false), (38, undef), (39, undef), (40, undef), (41, .bool false), (42, .bool false), (43, .slice (some ⟨b2, o2, none⟩) N c2), (44, .int .i64 (N : Int)), (45, .bool true), (46, .bool true), (47, .slice (some ⟨b2, o2, none⟩) N c2), (48, .pointer (some ⟨b2, o2, none⟩)), (49, u0), (50, .slice A1 m.length c1), (52, .bool true), (53, .bool true), (54, .bool true), (55, .bool true), (2, .bool true)] (fun d v W => d = 51 → RD W eInt v ks) (fun _ W => Kp w3 W) (Kp.drew (Kp.refl w3)) (by kernel_rfl) (by kernel_rfl) ?_ ?_
      · refine ⟨?_, ?_, ?_, ?_, ?_, ?_, ?_, ?_, ?_, ?_, ?_, ?_, ?_, ?_, ?_, ?_, ?_, ?_, ?_, ?_, ?_, ?_, ?_, ?_, ?_, ?_, ?_, trivial⟩
        · intro hop L a w5 hs hk hl ha keep know spec
          have h4 := keep 4 (u1) (by kernel_rfl) rfl
          exact wpOp_value hop (wanted_none rfl) (v := u1) (by simp only [execOp, Act.eval, h4]; rfl) ⟨_, rfl, hk, (fun d hd => by injection hd with hd; subst hd; exact ⟨tab rfl, fun h => absurd h (by decide)⟩), fun _ _ h => h⟩
        · intro hop L a w5 hs hk hl ha keep know spec
          have h7 := keep 7 (u2) (by kernel_rfl) rfl
          exact wpOp_value hop (wanted_none rfl) (v := u2) (by simp only [execOp, Act.eval, h7]; rfl) ⟨_, rfl, hk, (fun d hd => by injection hd with hd; subst hd; exact ⟨tab rfl, fun h => absurd h (by decide)⟩), fun _ _ h => h⟩
        · intro hop L a w5 hs hk hl ha keep know spec
          have h30 := know 30 (u1) (by kernel_rfl) rfl
          have h31 := know 31 (u2) (by kernel_rfl) rfl
          exact wpOp_call hop (wanted_none rfl) (by simp only [execOp, resolve, Act.eval, List.map_toArray, List.map_cons, List.map_nil, h30, h31]; rfl) (HE.out w5 hk) fun r w6 hR => by
            obtain ⟨rfl, hb6⟩ := hR
            exact ⟨_, rfl, _, rfl, hk.trans (Kp.of hb6), (fun d hd => by injection hd with hd; subst hd; exact ⟨tab rfl, fun h => absurd h (by decide)⟩), fun _ _ h e => (h e).kp (Kp.of hb6)⟩
        · intro hop L a w5 hs hk hl ha keep know spec
          have h32 := know 32 (.bool true) (by kernel_rfl) rfl
          exact wpOp_value hop (wanted_none rfl) (v := .bool true) (by simp only [execOp, Act.eval, h32]; rfl) ⟨_, rfl, hk, (fun d hd => by injection hd with hd; subst hd; exact ⟨tab rfl, fun h => absurd h (by decide)⟩), fun _ _ h => h⟩
        · intro hop L a w5 hs hk hl ha keep know spec
          have h3 := keep 3 (.slice A1 m.length c1) (by kernel_rfl) rfl
          have hg := know 33 (.bool true) (by kernel_rfl) rfl
          exact wpOp_value hop ((wanted_bool rfl rfl hg).trans rfl) (v := .slice A1 m.length c1) (by simp only [execOp, Act.eval, h3]; rfl) ⟨_, rfl, hk, (fun d hd => by injection hd with hd; subst hd; exact ⟨tab rfl, fun h => absurd h (by decide)⟩), fun _ _ h => h⟩
        · intro hop L a w5 hs hk hl ha keep know spec
          have h34 := know 34 (.slice A1 m.length c1) (by kernel_rfl) rfl
          have hg := know 33 (.bool true) (by kernel_rfl) rfl
          exact wpOp_value hop ((wanted_bool rfl rfl hg).trans rfl) (v := .int .i64 (m.length : Int)) (by simp only [execOp, resolve, Act.eval, List.map_toArray, List.map_cons, List.map_nil, h34]; go_simp) ⟨_, rfl, hk, (fun d hd => by injection hd with hd; subst hd; exact ⟨tab rfl, fun h => absurd h (by decide)⟩), fun _ _ h => h⟩
        · intro hop L a w5 hs hk hl ha keep know spec
          have h35 := know 35 (.int .i64 (m.length : Int)) (by kernel_rfl) rfl
          have hg := know 33 (.bool true) (by kernel_rfl) rfl
          exact wpOp_value hop ((wanted_bool rfl rfl hg).trans rfl) (v := .bool false) (by simp only [execOp, Act.eval, h35]; go_simp <;> simp only [dM]) ⟨_, rfl, hk, (fun d hd => by injection hd with hd; subst hd; exact ⟨tab rfl, fun h => absurd h (by decide)⟩), fun _ _ h => h⟩
        · intro hop L a w5 hs hk hl ha keep know spec
          have h36 := know 36 (.bool false) (by kernel_rfl) rfl
          have hg := know 33 (.bool true) (by kernel_rfl) rfl
          exact wpOp_value hop ((wanted_bool rfl rfl hg).trans rfl) (v := .bool false) (by simp only [execOp, Act.eval, h36]; rfl) ⟨_, rfl, hk, (fun d hd => by injection hd with hd; subst hd; exact ⟨tab rfl, fun h => absurd h (by decide)⟩), fun _ _ h => h⟩
        · intro hop L a w5 hs hk hl ha keep know spec
          have hg := know 37 (.bool false) (by kernel_rfl) rfl
          exact wpOp_not hop ((wanted_bool rfl rfl hg).trans rfl) ⟨_, rfl, hk, (fun d hd => by injection hd with hd; subst hd; exact ⟨tab rfl, fun h => absurd h (by decide)⟩), fun _ _ h => h⟩
        · intro hop L a w5 hs hk hl ha keep know spec
          have hg := know 37 (.bool false) (by kernel_rfl) rfl
          exact wpOp_not hop ((wanted_bool rfl rfl hg).trans rfl) ⟨_, rfl, hk, (fun d hd => by injection hd with hd; subst hd; exact ⟨tab rfl, fun h => absurd h (by decide)⟩), fun _ _ h => h⟩
        · intro hop L a w5 hs hk hl ha keep know spec
          have hg := know 37 (.bool false) (by kernel_rfl) rfl
          exact wpOp_not hop ((wanted_bool rfl rfl hg).trans rfl) ⟨_, rfl, hk, (fun d hd => by injection hd with hd; subst hd; exact ⟨tab rfl, fun h => absurd h (by decide)⟩), fun _ _ h => h⟩
        · intro hop L a w5 hs hk hl ha keep know spec
          have h37 := know 37 (.bool false) (by kernel_rfl) rfl
          have h40 := know 40 (undef) (by kernel_rfl) rfl
          have hg := know 33 (.bool true) (by kernel_rfl) rfl
          exact wpOp_value hop ((wanted_bool rfl rfl hg).trans rfl) (v := .bool false) (by simp only [execOp, Act.eval, h37, h40]; rfl) ⟨_, rfl, hk, (fun d hd => by injection hd with hd; subst hd; exact ⟨tab rfl, fun h => absurd h (by decide)⟩), fun _ _ h => h⟩
        · intro hop L a w5 hs hk hl ha keep know spec
          have h41 := know 41 (.bool false) (by kernel_rfl) rfl
          have hg := know 33 (.bool true) (by kernel_rfl) rfl
          exact wpOp_value hop ((wanted_bool rfl rfl hg).trans rfl) (v := .bool false) (by simp only [execOp, Act.eval, h41]; rfl) ⟨_, rfl, hk, (fun d hd => by injection hd with hd; subst hd; exact ⟨tab rfl, fun h => absurd h (by decide)⟩), fun _ _ h => h⟩
        · intro hop L a w5 hs hk hl ha keep know spec
          have h6 := keep 6 (.slice (some ⟨b2, o2, none⟩) N c2) (by kernel_rfl) rfl
          have hg := know 42 (.bool false) (by kernel_rfl) rfl
          exact wpOp_value hop ((wanted_bool rfl rfl hg).trans rfl) (v := .slice (some ⟨b2, o2, none⟩) N c2) (by simp only [execOp, Act.eval, h6]; rfl) ⟨_, rfl, hk, (fun d hd => by injection hd with hd; subst hd; exact ⟨tab rfl, fun h => absurd h (by decide)⟩), fun _ _ h => h⟩
        · intro hop L a w5 hs hk hl ha keep know spec
          have h43 := know 43 (.slice (some ⟨b2, o2, none⟩) N c2) (by kernel_rfl) rfl
          have hg := know 42 (.bool false) (by kernel_rfl) rfl
          exact wpOp_value hop ((wanted_bool rfl rfl hg).trans rfl) (v := .int .i64 (N : Int)) (by simp only [execOp, resolve, Act.eval, List.map_toArray, List.map_cons, List.map_nil, h43]; go_simp) ⟨_, rfl, hk, (fun d hd => by injection hd with hd; subst hd; exact ⟨tab rfl, fun h => absurd h (by decide)⟩), fun _ _ h => h⟩
        · intro hop L a w5 hs hk hl ha keep know spec
          have h44 := know 44 (.int .i64 (N : Int)) (by kernel_rfl) rfl
          have hg := know 42 (.bool false) (by kernel_rfl) rfl
          exact wpOp_value hop ((wanted_bool rfl rfl hg).trans rfl) (v := .bool true) (by simp only [execOp, Act.eval, h44]; go_simp <;> simp only [dNi]) ⟨_, rfl, hk, (fun d hd => by injection hd with hd; subst hd; exact ⟨tab rfl, fun h => absurd h (by decide)⟩), fun _ _ h => h⟩
        · intro hop L a w5 hs hk hl ha keep know spec
          have h45 := know 45 (.bool true) (by kernel_rfl) rfl
          have hg := know 42 (.bool false) (by kernel_rfl) rfl
          exact wpOp_value hop ((wanted_bool rfl rfl hg).trans rfl) (v := .bool true) (by simp only [execOp, Act.eval, h45]; rfl) ⟨_, rfl, hk, (fun d hd => by injection hd with hd; subst hd; exact ⟨tab rfl, fun h => absurd h (by decide)⟩), fun _ _ h => h⟩
        · intro hop L a w5 hs hk hl ha keep know spec
          have h6 := keep 6 (.slice (some ⟨b2, o2, none⟩) N c2) (by kernel_rfl) rfl
          have hg := know 46 (.bool true) (by kernel_rfl) rfl
          exact wpOp_value hop ((wanted_bool rfl rfl hg).trans rfl) (v := .slice (some ⟨b2, o2, none⟩) N c2) (by simp only [execOp, Act.eval, h6]; rfl) ⟨_, rfl, hk, (fun d hd => by injection hd with hd; subst hd; exact ⟨tab rfl, fun h => absurd h (by decide)⟩), fun _ _ h => h⟩
        · intro hop L a w5 hs hk hl ha keep know spec
          have h47 := know 47 (.slice (some ⟨b2, o2, none⟩) N c2) (by kernel_rfl) rfl
          have hg := know 46 (.bool true) (by kernel_rfl) rfl
          exact wpOp_value hop ((wanted_bool rfl rfl hg).trans rfl) (v := .pointer (some ⟨b2, o2, none⟩)) (by simp only [execOp, Act.eval, h47]; exact run_v (RIX w5)) ⟨_, rfl, hk, (fun d hd => by injection hd with hd; subst hd; exact ⟨tab rfl, fun h => absurd h (by decide)⟩), fun _ _ h => h⟩
        · intro hop L a w5 hs hk hl ha keep know spec
          have h48 := know 48 (.pointer (some ⟨b2, o2, none⟩)) (by kernel_rfl) rfl
          have hg := know 46 (.bool true) (by kernel_rfl) rfl
          exact wpOp_value hop ((wanted_bool rfl rfl hg).trans rfl) (v := u0) (by simp only [execOp, Act.eval, h48]; exact run_v (RLD w5 hk)) ⟨_, rfl, hk, (fun d hd => by injection hd with hd; subst hd; exact ⟨tab rfl, fun h => absurd h (by decide)⟩), fun _ _ h => h⟩
        · intro hop L a w5 hs hk hl ha keep know spec
          have h3 := keep 3 (.slice A1 m.length c1) (by kernel_rfl) rfl
          have hg := know 46 (.bool true) (by kernel_rfl) rfl
          exact wpOp_value hop ((wanted_bool rfl rfl hg).trans rfl) (v := .slice A1 m.length c1) (by simp only [execOp, Act.eval, h3]; rfl) ⟨_, rfl, hk, (fun d hd => by injection hd with hd; subst hd; exact ⟨tab rfl, fun h => absurd h (by decide)⟩), fun _ _ h => h⟩
        · intro hop L a w5 hs hk hl ha keep know spec
          have h50 := know 50 (.slice A1 m.length c1) (by kernel_rfl) rfl
          have hg := know 46 (.bool true) (by kernel_rfl) rfl
          exact wpOp_call hop ((wanted_bool rfl rfl hg).trans rfl) (by simp only [execOp, resolve, Act.eval, List.map_toArray, List.map_cons, List.map_nil, h50]; rfl) (HMK3.out w5 hk) fun r w6 hR => by
            obtain ⟨v6, rfl, ho6, hb6⟩ := hR
            exact ⟨_, rfl, _, rfl, hk.trans (Kp.of hb6), (fun d hd => by injection hd with hd; subst hd; exact ⟨tab_none rfl, fun _ => ho6.rd⟩), fun _ _ h e => (h e).kp (Kp.of hb6)⟩
        · intro hop L a w5 hs hk hl ha keep know spec
          have h49 := know 49 (u0) (by kernel_rfl) rfl
          have hg := know 46 (.bool true) (by kernel_rfl) rfl
          exact wpOp_call hop ((wanted_bool rfl rfl hg).trans rfl) (by simp only [execOp, resolve, Act.eval, List.map_toArray, List.map_cons, List.map_nil, h49]; rfl) (HEQ.out _ w5 hk (spec 51 (by kernel_rfl) rfl)) fun r w6 hR => by
            obtain ⟨rfl, hb6⟩ := hR
            exact ⟨_, rfl, _, rfl, hk.trans (Kp.of hb6), (fun d hd => by injection hd with hd; subst hd; exact ⟨tab rfl, fun h => absurd h (by decide)⟩), fun _ _ h e => (h e).kp (Kp.of hb6)⟩
        · intro hop L a w5 hs hk hl ha keep know spec
          have h46 := know 46 (.bool true) (by kernel_rfl) rfl
          have h52 := know 52 (.bool true) (by kernel_rfl) rfl
          have hg := know 42 (.bool false) (by kernel_rfl) rfl
          exact wpOp_value hop ((wanted_bool rfl rfl hg).trans rfl) (v := .bool true) (by simp only [execOp, Act.eval, h46, h52]; rfl) ⟨_, rfl, hk, (fun d hd => by injection hd with hd; subst hd; exact ⟨tab rfl, fun h => absurd h (by decide)⟩), fun _ _ h => h⟩
        · intro hop L a w5 hs hk hl ha keep know spec
          have h42 := know 42 (.bool false) (by kernel_rfl) rfl
          have h53 := know 53 (.bool true) (by kernel_rfl) rfl
          have hg := know 33 (.bool true) (by kernel_rfl) rfl
          exact wpOp_value hop ((wanted_bool rfl rfl hg).trans rfl) (v := .bool true) (by simp only [execOp, Act.eval, h42, h53]; rfl) ⟨_, rfl, hk, (fun d hd => by injection hd with hd; subst hd; exact ⟨tab rfl, fun h => absurd h (by decide)⟩), fun _ _ h => h⟩
        · intro hop L a w5 hs hk hl ha keep know spec
          have h33 := know 33 (.bool true) (by kernel_rfl) rfl
          have h54 := know 54 (.bool true) (by kernel_rfl) rfl
          exact wpOp_value hop (wanted_none rfl) (v := .bool true) (by simp only [execOp, Act.eval, h33, h54]; rfl) ⟨_, rfl, hk, (fun d hd => by injection hd with hd; subst hd; exact ⟨tab rfl, fun h => absurd h (by decide)⟩), fun _ _ h => h⟩
        · intro hop L a w5 hs hk hl ha keep know spec
          have h55 := know 55 (.bool true) (by kernel_rfl) rfl
          exact wpOp_value hop (wanted_none rfl) (v := .bool true) (by simp only [execOp, Act.eval, h55]; rfl) ⟨_, rfl, hk, (fun d hd => by injection hd with hd; subst hd; exact ⟨tab rfl, fun h => absurd h (by decide)⟩), fun _ _ h => h⟩
      · intro a' w5 e1 e2 hk keep know spec
        obtain ⟨tm, df⟩ := a'
        have k2 := know 2 (.bool true) (by kernel_rfl) rfl
        clear keep know spec
        obtain ⟨x0, x1, x2, x3, x4, x5, x6, x7, x8, x9, x10, x11, x12, x13, x14, x15, x16, x17, x18, x19, x20, x21, x22, x23, x24, x25, x26, x27, x28, x29, x30, x31, x32, x33, x34, x35, x36, x37, x38, x39, x40, x41, x42, x43, x44, x45, x46, x47, x48, x49, x50, x51, x52, x53, x54, x55, hE⟩ : ∃ x0 x1 x2 x3 x4 x5 x6 x7 x8 x9 x10 x11 x12 x13 x14 x15 x16 x17 x18 x19 x20 x21 x22 x23 x24 x25 x26 x27 x28 x29 x30 x31 x32 x33 x34 x35 x36 x37 x38 x39 x40 x41 x42 x43 x44 x45 x46 x47 x48 x49 x50 x51 x52 x53 x54 x55, tm = #[x0, x1, x2, x3, x4, x5, x6, x7, x8, x9, x10, x11, x12, x13, x14, x15, x16, x17, x18, x19, x20, x21, x22, x23, x24, x25, x26, x27, x28, x29, x30, x31, x32, x33, x34, x35, x36, x37, x38, x39, x40, x41, x42, x43, x44, x45, x46, x47, x48, x49, x50, x51, x52, x53, x54, x55] := ⟨_, _, _, _, _, _, _, _, _, _, _, _, _, _, _, _, _, _, _, _, _, _, _, _, _, _, _, _, _, _, _, _, _, _, _, _, _, _, _, _, _, _, _, _, _, _, _, _, _, _, _, _, _, _, _, _, arr_eq e2⟩
        subst hE
        have k2' : x2 = .bool true := k2
        subst k2'
        have e1' : df = [] := e1
        subst e1'
        clear e1 e2 k2
        go_wp2
        go_ret
        exact ⟨rfl, (kk1.trans (kk2.trans (kk3.trans hk))).bel⟩
end Go.Proofs.YtfojphaemfbfnaaDoor
namespace Go.Proofs.YtfojphaemfbfnaaDoor
open Go.ChangeShapes Go.WideShapes Go.ChangeAt Go.RowKit Go.Deep
set_option linter.unusedVariables false
set_option linter.unusedSimpArgs false

set_option maxRecDepth 100000 in
theorem skipPlain_lifted (os : Os) (started : os.Started) (H : Type) (enc : TypeId × Value → H) :
    ReturnsInHanded {} Tryd.checked os 8 .any (fun w args => (Rows.skipPlainSpec.pre enc Tryd.prog Tryd.f8 Rows.skipPlainRow.domain false w args ∧ laidMetH Tryd.prog ZLaid w) ∧ sizedMet enc Tryd.prog Tryd.f8 (OpenSpec.ofChange Rows.skipPlainSpec) false w args) (Rows.skipPlainSpec.post enc Tryd.prog Tryd.f8 false true false false) := by
  refine returnsInHanded_of_change_and (C := Tryd.checked) (X := fun w _ => laidMetH Tryd.prog ZLaid w) (fun _ _ _ hh h => h.of_heap hh) own started (by kernel_rfl) Tryd.func8
    (ChangeSpec.witness_at (enc := enc) (C := Tryd.checked) (os := os) (X := fun w _ => laidMetH Tryd.prog ZLaid w) false (laidWorldZ os) #[.slice none 0 0] 8 rfl (by kernel_rfl) (by kernel_rfl) (by kernel_rfl) (by kernel_rfl) (by kernel_rfl) (laidZ_met os _)) ?_
  intro W base args ds gs before hval0 hW hcnd _ hL _
  have hval : ∀ (j : Nat) t v, Tryd.f8.params[j]? = some t → args[j]? = some v → Value.okWide Tryd.prog W .any base t v := hval0
  have hW' := hW
  obtain ⟨p, q, hA0, hV, rfl, hfz, hnd⟩ := hW
  have hA : DataW.TrodAll enc Tryd.prog W 0 (fun _ => true) true Tryd.f8.params.toList args.toList ds p := hA0
  rw [Tryd.params8] at hA hval
  obtain ⟨v0, vs0, d0, ds0, p0, q0, hargs, rfl, rfl, h0, r0⟩ := trodAll_cons hA
  obtain ⟨rfl, rfl, rfl⟩ := trodAll_nil r0
  obtain rfl : args = #[v0] := by cases args; simp_all
  obtain ⟨rfl, rfl⟩ := trodVars_none hV
  obtain ⟨a0, n0, c0, rfl⟩ := okWide_slice Tryd.underlying40 (hval 0 40 v0 rfl rfl)
  have lt0 : ∀ x ∈ p0, x.block < W.heap.size := by obtain ⟨m, hm⟩ := h0; exact DataW.trod_lt m _ _ _ hm
  obtain ⟨l0, w0⟩ := arg_ops h0
  clear hA0 hval0
  refine (skipPlain_walk l0 _ W w0 (db_of_laid hL)).mono fun e W' ⟨he, bel⟩ => ?_
  subst he
  exact ⟨_, rfl, _, _, _, [], _, [], hW', trodAll_mk1 (shut_bool Tryd.underlying4 _), (trodAll_cons_mk (Below.trod laidOut (by kernel_rfl) (of_decide_eq_true (by kernel_rfl)) h0 bel lt0) trodAll_mk0), rfl, bel.frame _, fun h => by cases h⟩

set_option maxRecDepth 100000 in
set_option maxHeartbeats 8000000 in
theorem skipPlain_closed : joinedFacts Tryd.checked.prog 8 Tryd.f8 Rows.skipPlainSpec Rows.skipPlainRow = true := by
  unfold joinedFacts
  repeat' (with_reducible refine and_true_of ?_ ?_)
  all_goals (as_aux_lemma => kernel_rfl)
theorem skipPlain_over : Rows.skipPlainRow.holds Tryd.pinned (OpenSpec.ofChange Rows.skipPlainSpec) :=
  OpenClaim.holds_of_wide 8 Tryd.f8 rfl rfl rfl rfl rfl rfl rfl ⟨rfl, rfl, rfl, rfl, rfl⟩ rfl rfl rfl rfl rfl (by as_aux_lemma => kernel_rfl) Tryd.func8 skipPlain_closed
    (of_decide_eq_true (by as_aux_lemma => kernel_rfl)) (by as_aux_lemma => unfold Func.isWrapper; first | (rw [if_pos (by decide +kernel)]; kernel_rfl) | (rw [if_neg (by decide +kernel)]; exact ⟨rfl, rfl⟩))
    (fun os started H enc _ => skipPlain_lifted os started H enc)
set_option maxRecDepth 100000 in
theorem skipPlain_proved : Rows.SkipPlainCardSaid :=
  Claim7.holds_tied_plain_at .later [] [.data] true _ false skipPlain_over (fun _ h => by cases h) (by kernel_rfl) (fun _ h => by cases h) skipPlain_row_tie rfl ⟨rfl, rfl⟩ (by kernel_rfl) rfl
    (fun f fn hf hfn => by
      obtain rfl : f = 8 := Option.some.inj ((show Tryd.prog.funcNamed "hedgewright/hedgkeep.SkipPlain" = some 8 by kernel_rfl).symm.trans hf) |>.symm
      obtain rfl : fn = Tryd.f8 := (Option.some.inj (Tryd.func8.symm.trans hfn)).symm
      exact ⟨by kernel_rfl, fun j t ht => by
        have h : (Tryd.f8.params.toList.all fun t => !Tryd.prog.wantsStandIn t) = true := by kernel_rfl
        have hm : t ∈ Tryd.f8.params.toList := by
          rw [Array.mem_toList_iff]
          exact Array.mem_of_getElem? ht
        have h2 : Tryd.prog.wantsStandIn t = false := by simpa using List.all_eq_true.1 h t hm
        exact h2⟩)
    (by kernel_rfl)
#print axioms skipPlain_proved
end Go.Proofs.YtfojphaemfbfnaaDoor
