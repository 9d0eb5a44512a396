/-
  A region that draws its order, told slot by slot: wp_region_tab: a table T of what its slo
  A region told slot by slot, more: a step that stores, what an operation waits for, the fra
  A region that draws its order, told slot by slot as by wp_region_tab, with a ghost: what i
  slices.Clone at ints; the row of the ops
-/
import Derived.Test.YtcljlnagpjilaaaGreatDoorG1
import Derived.Orders
import Derived.Test.YtcljlnagpjilaaaGreatDoorG7

set_option linter.unusedVariables false
set_option linter.unusedSimpArgs false
set_option maxRecDepth 100000
set_option maxHeartbeats 8000000
namespace Go.Proofs.YtcljlnagpjilaaaGreatDoor
open Go
def openN (L : Array Bool) : Nat := L.toList.countP fun b => !b
theorem countP_set : ∀ (l : List Bool) (i : Nat), l[i]? = some false -> (l.set i true).countP (fun b => !b) + 1 = l.countP fun b => !b
 | [], i, h => by simp at h
 | a :: l, 0, h => by
  simp at h
  subst h
  simp
 | a :: l, i + 1, h => by
  have := countP_set l i (by simpa using h)
  simp only [List.set_cons_succ, List.countP_cons]
  omega
theorem openN_set {L : Array Bool} {i : Nat} (hi : i < L.size) (h : L.getD i true = false) : openN (L.setIfInBounds i true) + 1 = openN L := by
 unfold openN
 have h1 : L[i] = false := by simpa [Array.getD, hi] using h
 have h2 : (L.setIfInBounds i true).toList = L.toList.set i true := by simp
 rw [h2]
 exact countP_set _ _ (by simp [hi, h1])
theorem wpAny_inv {P : Program} {ops : Array Oper} {md : Region.Mode} {Q : Exit -> Act -> World -> Prop} (Inv : Array Bool -> Act -> World -> Prop)
  (hstep : ∀ L a w, L.size = ops.size -> Inv L a w -> ∀ i ∈ Region.ready md ops L, wpOp P ops Q i (Inv (L.setIfInBounds i true)) a w)
  (hend : ∀ L a w, L.size = ops.size -> Inv L a w -> Region.ready md ops L = [] -> Q .normal a w) :
  ∀ fuel L a w, L.size = ops.size -> openN L <= fuel -> Inv L a w -> wpAny P md ops Q fuel L a w
 | 0, L, a, w, hs, hf, hi => by
  have hr : Region.ready md ops L = [] := by
   unfold Region.ready
   rw [List.filter_eq_nil_iff]
   intro i hi' hc
   rw [List.mem_range] at hi'
   simp only [Bool.and_eq_true, Bool.not_eq_true'] at hc
   have := openN_set (L := L) (i := i) (by omega) hc.1
   omega
  exact ⟨hr, hend L a w hs hi hr⟩
 | fuel + 1, L, a, w, hs, hf, hi => by
  refine ⟨hend L a w hs hi, fun i hr => ?_⟩
  have hr' := hr
  unfold Region.ready at hr'
  rw [List.mem_filter, List.mem_range] at hr'
  simp only [Bool.and_eq_true, Bool.not_eq_true'] at hr'
  have hc := openN_set (L := L) (i := i) (by omega) hr'.2.1
  refine wpOp_mono (fun a w h => ?_) (hstep L a w hs hi i hr)
  exact wpAny_inv Inv hstep hend fuel _ a w (by simp [hs]) (by omega) h
theorem wp_region_inv {P : Program} {ops : Array Oper} {Q : Exit -> Act -> World -> Prop} {id : Nat} {a : Act} {w : World} (hm : P.follows .mixedOrders = true) (Inv : Array Bool -> Act -> World -> Prop)
  (h0 : Inv (Array.replicate ops.size false) a { w with drawn := w.drawn + 1 })
  (hstep : ∀ L a w, L.size = ops.size -> Inv L a w -> ∀ i ∈ Region.ready .any ops L, wpOp P ops Q i (Inv (L.setIfInBounds i true)) a w)
  (hend : ∀ L a w, L.size = ops.size -> Inv L a w -> Region.ready .any ops L = [] -> Q .normal a w) : (Code.region id ops true).wp P Q a w :=
 wp_region_any hm (wpAny_inv Inv hstep hend ops.size _ a _ (by simp) (by
  unfold openN
  rw [Array.toList_replicate, List.countP_replicate]; simp) h0)
def dstsOf (ops : Array Oper) : List Nat := ops.toList.filterMap (·.dst)
def knowsAt (ops : Array Oper) (o : Oper) (d : Nat) : Bool :=
 !(dstsOf ops).contains d || o.after.toList.any fun e => Region.binds .any e && ((ops[e.on]?).bind (·.dst) == some d)
def StepsFrom (f : Nat -> Oper -> Prop) : Nat -> List Oper -> Prop
 | _, [] => True
 | k, o :: os => f k o /\ StepsFrom f (k + 1) os
theorem StepsFrom.at {f : Nat -> Oper -> Prop} : ∀ {l : List Oper} {k i : Nat} {o : Oper}, StepsFrom f k l -> l[i]? = some o -> f (k + i) o
 | [], _, _, _, _, h => by simp at h
 | a :: l, k, 0, o, hs, h => by
  simp at h
  subst h
  exact hs.1
 | a :: l, k, i + 1, o, hs, h => by
  have := StepsFrom.at (i := i) hs.2 (by simpa using h)
  rw [show k + 1 + i = k + (i + 1) from by omega] at this
  exact this
def backs (ops : Array Oper) : Bool := (List.range ops.size).all fun i => ((ops[i]?).map fun o => o.after.all fun e => !Region.binds .any e || decide (e.on < i)).getD true
theorem all_listed {ops : Array Oper} (hb0 : backs ops = true) {L : Array Bool} (hs : L.size = ops.size) (hr0 : Region.ready .any ops L = []) : ∀ n i, i < n -> i < ops.size -> L.getD i true = true
 | 0, _, h, _ => by omega
 | n + 1, i, h, hi => by
  cases hL : L.getD i true with
  | true => rfl
  | false =>
   exfalso
   have hb := hb0
   have hr := hr0
   unfold Region.ready at hr
   rw [List.filter_eq_nil_iff] at hr
   refine hr i (by simpa using hi) ?_
   have ho : ops[i]? = some ops[i] := by simp [hi]
   unfold backs at hb
   rw [List.all_eq_true] at hb
   have hb1 := hb i (by simpa using hi)
   rw [ho] at hb1 ⊢
   simp only [Option.map_some, Option.getD_some, hL, Bool.not_false, Bool.true_and] at hb1 ⊢
   rw [Array.all_eq_true'] at hb1 ⊢
   intro e he
   have := hb1 e he
   cases hq : Region.binds .any e with
   | false => rfl
   | true =>
    simp only [hq, Bool.not_true, Bool.false_or, decide_eq_true_eq] at this ⊢
    have h2 := all_listed hb0 hs hr0 n e.on (by omega) (by omega)
    have h3 : e.on < L.size := by omega
    simp only [Array.getD, h3, dif_pos] at h2 ⊢
    exact h2
section
variable {P : Program} {ops : Array Oper} {Q : Exit -> Act -> World -> Prop} {Val : Nat -> Value -> World -> Prop} {K : Act -> World -> Prop} {i : Nat} {o : Oper} {a : Act} {w : World}
theorem wpOp_value (ho : ops[i]? = some o) (hw : Region.wanted o (yielded ops a.tmps) = true) {v : Value} {w' : World} (hr : (execOp a.eval o).run P w = .ok (.value v) w') (h : K (a.put o.dst v) w') : wpOp P ops Q i K a w := by
 unfold wpOp
 simp only [ho, hw, if_true, Oper.wp, hr, Oper.upon]
 exact .inl h
theorem wpOp_call (ho : ops[i]? = some o) (hw : Region.wanted o (yielded ops a.tmps) = true) {f : FuncId} {args : Array Value} {w' : World} (hr : (execOp a.eval o).run P w = .ok (.enter f args) w') {R : Ending -> World -> Prop}
  (hc : Calls P f args w' R) (h : ∀ r w2, R r w2 -> ∃ v, r = .returned v /\ K (a.put o.dst v) w2) : wpOp P ops Q i K a w := by
 unfold wpOp
 simp only [ho, hw, if_true, Oper.wp, hr, Oper.upon]
 refine .inl (hc.mono fun r w2 hR => ?_)
 obtain ⟨v, rfl, hk⟩ := h r w2 hR
 exact hk
end
def waitsFor (ops : Array Oper) (o : Oper) (d : Nat) : Bool := o.after.toList.any fun e => Region.binds .any e && ((ops[e.on]?).bind (·.dst) == some d)
theorem tab {T : List (Nat × Value)} {d : Nat} {v : Value} (h : T.lookup d = some v) : ∀ x, T.lookup d = some x -> v = x := fun x hx => Option.some.inj (h.symm.trans hx)
theorem tab_none {T : List (Nat × Value)} {d : Nat} {v : Value} (h : T.lookup d = none) : ∀ x, T.lookup d = some x -> v = x := fun x hx => by rw [h] at hx; cases hx
theorem wanted_none {o : Oper} {y : Nat -> Option Bool} (h : o.guard = none) : Region.wanted o y = true := by
 unfold Region.wanted
 rw [h]
theorem run_v {P : Program} {s : Sem Value} {w w' : World} {v : Value} (h : s.run P w = .ok v w') : (do pure (Next.value (<- s)) : Sem Next).run P w = .ok (.value v) w' := by
 simp [h]
theorem wpOp_skip {w w' : World} {P : Program} {ops : Array Oper} {Q : Exit -> Act -> World -> Prop} {K : Act -> World -> Prop} {k : Nat} {o : Oper} {a : Act} (ho : ops[k]? = some o) (hw : Region.wanted o (yielded ops a.tmps) = true) (hr : (execOp a.eval o).run P w = .ok .skip w') (h : K (a.put o.dst undef) w') : wpOp P ops Q k K a w := by
 unfold wpOp
 simp only [ho, hw, if_true, Oper.wp, hr, Oper.upon]
 exact .inl h
theorem run_u {w w' : World} {P : Program} {s : Sem Unit} (h : s.run P w = .ok () w') : (do s; pure Next.skip : Sem Next).run P w = .ok .skip w' := by
 simp [h]
theorem after_done {o : Oper} {L : Array Bool} (ha : ∀ e ∈ o.after.toList, Region.binds .any e = true -> L.getD e.on false = true) {k : Nat} (h : (o.after.toList.any fun e => Region.binds .any e && (e.on == k)) = true) : L.getD k true = true := by
 rw [List.any_eq_true] at h
 obtain ⟨e, he, h⟩ := h
 rw [Bool.and_eq_true] at h
 have h2 : e.on = k := by simpa using h.2
 have := ha e he h.1
 rw [h2] at this
 simp only [Array.getD_eq_getD_getElem?] at this ⊢
 cases hq : L[k]? with
 | none => rw [hq] at this; simp at this
 | some x => rw [hq] at this; simpa using this
theorem frame_puts {D : List Nat} {A A' : Array Value} (hs : A'.size = A.size) (h : ∀ d x, D.contains d = false -> A.getD d undef = x -> A'.getD d undef = x) : ∃ f : Nat -> Value, A' = D.foldl (fun B d => B.setIfInBounds d (f d)) A := by
 refine ⟨fun d => A'.getD d undef, ?_⟩
 have key : ∀ (D : List Nat) (A : Array Value), A'.size = A.size -> (∀ d, D.contains d = false -> A'.getD d undef = A.getD d undef) -> A' = D.foldl (fun B d => B.setIfInBounds d (A'.getD d undef)) A := by
  intro D
  induction D with
  | nil =>
   intro A hs h
   apply Array.ext hs
   intro k h1 h2
   have := h k rfl
   simpa [Array.getD, h1, h2] using this
  | cons d D ih =>
   intro A hs h
   rw [List.foldl_cons]
   refine ih _ (by simp [hs]) fun k hk => ?_
   by_cases e : k = d
   ·subst e
    by_cases hlt : k < A.size
    ·simp [Array.getD_eq_getD_getElem?, Array.getElem?_setIfInBounds_self_of_lt hlt]
    ·simp [Array.getD, hs, hlt]
   ·rw [h k (by simp at hk ⊢; exact ⟨e, hk⟩)]
    simp only [Array.getD_eq_getD_getElem?, Array.getElem?_setIfInBounds_ne (Ne.symm e)]
 exact key D A hs fun d hd => h d _ hd rfl
theorem frame_putsE {D : List Nat} {A A' : Array Value} (hs : A'.size = A.size) (h : ∀ d x, D.contains d = false -> A.getD d undef = x -> A'.getD d undef = x) : ∃ f : Nat -> Value, (∀ d, A'.getD d undef = f d) /\ A' = D.foldl (fun B d => B.setIfInBounds d (f d)) A := by
 refine ⟨fun d => A'.getD d undef, fun _ => rfl, ?_⟩
 have key : ∀ (D : List Nat) (A : Array Value), A'.size = A.size -> (∀ d, D.contains d = false -> A'.getD d undef = A.getD d undef) -> A' = D.foldl (fun B d => B.setIfInBounds d (A'.getD d undef)) A := by
  intro D
  induction D with
  | nil =>
   intro A hs h
   apply Array.ext hs
   intro k h1 h2
   have := h k rfl
   simpa [Array.getD, h1, h2] using this
  | cons d D ih =>
   intro A hs h
   rw [List.foldl_cons]
   refine ih _ (by simp [hs]) fun k hk => ?_
   by_cases e : k = d
   ·subst e
    by_cases hlt : k < A.size
    ·simp [Array.getD_eq_getD_getElem?, Array.getElem?_setIfInBounds_self_of_lt hlt]
    ·simp [Array.getD, hs, hlt]
   ·rw [h k (by simp at hk ⊢; exact ⟨e, hk⟩)]
    simp only [Array.getD_eq_getD_getElem?, Array.getElem?_setIfInBounds_ne (Ne.symm e)]
 exact key D A hs fun d hd => h d _ hd rfl
section
variable {w w' : World}
theorem run_exec_app {P : Program} {o : Oper} {a : Act} {t : TypeId} {u v v' : Value} (s x : Operand) (ho : o.op = .call { callee := .builtin .append, args := #[s, x], argTypes := #[t, t] }) (hs : a.eval s = v) (hx : a.eval x = u) (hr : (Builtin.append_ #[t, t] o.type #[v, u]).run P w = .ok v' w') :
  (execOp a.eval o).run P w = .ok (.value v') w' := by
 unfold execOp
 simp only [ho, resolve, invoke, builtin, Sem.run_bind, Sem.run_pure, Result.andThen_ok, List.map_toArray, List.map_cons, List.map_nil, hs, hx, hr]
end
section
variable {Γ : Type}
def ValsAtG (ops : Array Oper) (Val : Nat -> Value -> World -> Γ -> Prop) (J : Array Bool -> World -> Γ -> Prop) (n : Nat) (D : List Deferred) (L : Array Bool) (a : Act) (w : World) : Prop :=
 ∃ γ, a.defers = D /\ a.tmps.size = n /\ J L w γ /\ ∀ d, d < n -> ((dstsOf ops).contains d = false ∨ ∃ i o, L.getD i false = true /\ ops[i]? = some o /\ o.dst = some d) -> Val d (a.tmps.getD d undef) w γ
def StepAtG (P : Program) (ops : Array Oper) (Q : Exit -> Act -> World -> Prop) (Val : Nat -> Value -> World -> Γ -> Prop) (J : Array Bool -> World -> Γ -> Prop) (n : Nat) (i : Nat) (o : Oper) : Prop :=
 ∀ L a w γ, a.tmps.size = n -> J L w γ -> L.getD i true = false -> (∀ e ∈ o.after.toList, Region.binds .any e = true -> L.getD e.on false = true) -> (∀ d, d < n -> knowsAt ops o d = true -> Val d (a.tmps.getD d undef) w γ) ->
  wpOp P ops Q i (fun a' w' => ∃ v γ', a' = a.put o.dst v /\ J (L.setIfInBounds i true) w' γ' /\ (∀ d, o.dst = some d -> Val d v w' γ') /\ ∀ d v, o.dst ≠ some d -> Val d v w γ -> Val d v w' γ') a w
theorem wp_region_valsG {P : Program} {ops : Array Oper} {Q : Exit -> Act -> World -> Prop} {id : Nat} {a : Act} {w : World} (hm : P.follows .mixedOrders = true) (Val : Nat -> Value -> World -> Γ -> Prop) (J : Array Bool -> World -> Γ -> Prop)
  (γ0 : Γ) (hJ : J (Array.replicate ops.size false) { w with drawn := w.drawn + 1 } γ0)
  (h0 : ∀ d, d < a.tmps.size -> (dstsOf ops).contains d = false -> Val d (a.tmps.getD d undef) { w with drawn := w.drawn + 1 } γ0)
  (hsteps : StepsFrom (StepAtG P ops Q Val J a.tmps.size) 0 ops.toList)
  (hb : backs ops = true)
  (hend : ∀ a' w' γ, a'.defers = a.defers -> a'.tmps.size = a.tmps.size -> J (Array.replicate ops.size true) w' γ -> (∀ d, d < a.tmps.size -> Val d (a'.tmps.getD d undef) w' γ) -> Q .normal a' w') :
  (Code.region id ops true).wp P Q a w := by
 refine wp_region_inv hm (ValsAtG ops Val J a.tmps.size a.defers) ⟨γ0, rfl, rfl, hJ, fun d hd h => ?_⟩ ?_ ?_
 ·rcases h with h | ⟨i, o, h, _⟩
  ·exact h0 d hd h
  ·simp [Array.getD, Array.getElem_replicate] at h
 ·rintro L a' w' hs ⟨γ, e1, e2, hj, hv⟩ i hr
  unfold Region.ready at hr
  rw [List.mem_filter, List.mem_range] at hr
  obtain ⟨hi, hr⟩ := hr
  simp only [Bool.and_eq_true, Bool.not_eq_true'] at hr
  obtain ⟨hl, hr⟩ := hr
  have ho : ops[i]? = some ops[i] := by simp [hi]
  have hi' : i < L.size := by omega
  generalize ops[i] = o at ho
  rw [ho] at hr
  have haft : ∀ e ∈ o.after.toList, Region.binds .any e = true -> L.getD e.on false = true := fun e he hb => by
   have hr2 : (o.after.all fun e => !Region.binds .any e || L.getD e.on false) = true := by simpa using hr
   have := Array.all_eq_true'.1 hr2 e (by simpa using he)
   simpa [hb] using this
  have hst := hsteps.at (i := i) (o := o) (by simpa using ho)
  rw [Nat.zero_add] at hst
  refine wpOp_mono ?_ (hst L a' w' γ e2 hj hl haft fun d hd hk => hv d hd ?_)
  ·rintro a2 w2 ⟨v, γ', rfl, hj2, hval, hmono⟩
   have hsz : (a'.put o.dst v).tmps.size = a'.tmps.size := by
    cases o.dst <;> simp [Act.put]
   refine ⟨γ', ?_, by rw [hsz, e2], hj2, fun d hd hk => ?_⟩
   ·rw [<- e1]
    cases o.dst <;> rfl
   ·by_cases hdd : o.dst = some d
    ·have : (a'.put o.dst v).tmps.getD d undef = v := by
      rw [hdd]
      simp [Act.put, Array.getD, e2, hd]
     rw [this]
     exact hval d hdd
    ·have : (a'.put o.dst v).tmps.getD d undef = a'.tmps.getD d undef := by
      cases hq : o.dst with
      | none => rfl
      | some d2 =>
       have : d2 ≠ d := fun h => hdd (by rw [hq, h])
       simp only [Act.put, Array.getD_eq_getD_getElem?, Array.getElem?_setIfInBounds_ne this]
     rw [this]
     refine hmono d _ hdd (hv d hd ?_)
     rcases hk with hk | ⟨j, oj, h1, h2, h3⟩
     ·exact .inl hk
     ·by_cases hji : j = i
      ·subst hji
       rw [ho] at h2
       injection h2 with h2
       subst h2
       exact absurd h3 hdd
      ·refine .inr ⟨j, oj, ?_, h2, h3⟩
       have : (L.setIfInBounds i true).getD j false = L.getD j false := by
        simp only [Array.getD_eq_getD_getElem?, Array.getElem?_setIfInBounds_ne (Ne.symm hji)]
       rw [<- this]
       exact h1
  ·unfold knowsAt at hk
   rw [Bool.or_eq_true] at hk
   rcases hk with hk | hk
   ·exact .inl (by simpa using hk)
   ·rw [List.any_eq_true] at hk
    obtain ⟨e, he, hk⟩ := hk
    rw [Bool.and_eq_true] at hk
    have hk2 : (ops[e.on]?).bind (·.dst) = some d := by simpa using hk.2
    obtain ⟨oe, h1, h2⟩ := Option.bind_eq_some_iff.1 hk2
    exact .inr ⟨e.on, oe, haft e he hk.1, h1, h2⟩
 ·rintro L a' w' hs ⟨γ, e1, e2, hj, hv⟩ hr
  have hall := fun i h => all_listed hb hs hr ops.size i h h
  have hL : L = Array.replicate ops.size true := by
   apply Array.ext (by simp [hs])
   intro i h1 h2
   have := hall i (by omega)
   simpa [Array.getD, h1] using this
  refine hend a' w' γ e1 e2 (hL ▸ hj) fun d hd => hv d hd ?_
  cases hc : (dstsOf ops).contains d with
  | false => exact .inl rfl
  | true =>
   right
   have hm : d ∈ dstsOf ops := by simpa using hc
   unfold dstsOf at hm
   rw [List.mem_filterMap] at hm
   obtain ⟨o, ho, hod⟩ := hm
   obtain ⟨i, hi, rfl⟩ := List.mem_iff_getElem.1 ho
   have hi' : i < ops.size := by simpa using hi
   refine ⟨i, ops[i], ?_, by simp [hi'], by simpa using hod⟩
   have := hall i hi'
   have h3 : i < L.size := by omega
   simpa [Array.getD, h3] using this
def StepTG (P : Program) (ops : Array Oper) (Q : Exit -> Act -> World -> Prop) (T : List (Nat × Value)) (G : Nat -> Value -> World -> Γ -> Prop) (J : Array Bool -> World -> Γ -> Prop) (a0 : Act) (i : Nat) (o : Oper) : Prop :=
 ops[i]? = some o -> ∀ L a w γ, a.tmps.size = a0.tmps.size -> J L w γ -> L.getD i true = false -> (∀ e ∈ o.after.toList, Region.binds .any e = true -> L.getD e.on false = true) ->
  (∀ d x, (dstsOf ops).contains d = false -> a0.tmps.getD d undef = x -> a.tmps.getD d undef = x) ->
  (∀ d x, waitsFor ops o d = true -> T.lookup d = some x -> a.tmps.getD d undef = x) ->
  (∀ d, waitsFor ops o d = true -> G d (a.tmps.getD d undef) w γ) ->
  wpOp P ops Q i (fun a' w' => ∃ v γ', a' = a.put o.dst v /\ J (L.setIfInBounds i true) w' γ' /\ (∀ d, o.dst = some d -> (∀ x, T.lookup d = some x -> v = x) /\ G d v w' γ') /\ ∀ d v, o.dst ≠ some d -> G d v w γ -> G d v w' γ') a w
theorem wp_region_tabG {P : Program} {ops : Array Oper} {Q : Exit -> Act -> World -> Prop} {id : Nat} {a : Act} {w : World} (hm : P.follows .mixedOrders = true) (T : List (Nat × Value)) (G : Nat -> Value -> World -> Γ -> Prop) (J : Array Bool -> World -> Γ -> Prop)
  (γ0 : Γ) (hJ : J (Array.replicate ops.size false) { w with drawn := w.drawn + 1 } γ0) (hb : backs ops = true) (hds : ((dstsOf ops).all fun d => decide (d < a.tmps.size)) = true)
  (hsteps : StepsFrom (StepTG P ops Q T G J a) 0 ops.toList)
  (hend : ∀ a' w' γ, a'.defers = a.defers -> a'.tmps.size = a.tmps.size -> J (Array.replicate ops.size true) w' γ ->
   (∀ d x, (dstsOf ops).contains d = false -> a.tmps.getD d undef = x -> a'.tmps.getD d undef = x) ->
   (∀ d x, (dstsOf ops).contains d = true -> T.lookup d = some x -> a'.tmps.getD d undef = x) ->
   (∀ d, (dstsOf ops).contains d = true -> G d (a'.tmps.getD d undef) w' γ) -> Q .normal a' w') :
  (Code.region id ops true).wp P Q a w := by
 have hlt : ∀ d, (dstsOf ops).contains d = true -> d < a.tmps.size := fun d hd => by
  rw [List.all_eq_true] at hds
  simpa using hds d (by simpa using hd)
 have hout : ∀ b : Act, b.tmps.size = a.tmps.size -> ∀ d, ¬ d < a.tmps.size -> b.tmps.getD d undef = a.tmps.getD d undef := fun b hb d hd => by
  simp [Array.getD, hb, hd]
 refine wp_region_valsG hm (fun d v w γ => if (dstsOf ops).contains d then (∀ x, T.lookup d = some x -> v = x) /\ G d v w γ else v = a.tmps.getD d undef) J γ0 hJ (fun d _ h => by rw [if_neg (by simpa using h)]) ?_ hb fun a' w' γ e1 e2 hj hv => ?_
 ·have key : ∀ (l : List Oper) (k : Nat), (∀ i o, l[i]? = some o -> ops[k + i]? = some o) -> StepsFrom (StepTG P ops Q T G J a) k l -> StepsFrom (StepAtG P ops Q (fun d v w γ => if (dstsOf ops).contains d then (∀ x, T.lookup d = some x -> v = x) /\ G d v w γ else v = a.tmps.getD d undef) J a.tmps.size) k l := by
   intro l
   induction l with
   | nil => exact fun _ _ _ => trivial
   | cons o l ih =>
    intro k hk h
    refine ⟨?_, ih (k + 1) (fun i o h => by rw [show k + 1 + i = k + (i + 1) from by omega]; exact hk (i + 1) o (by simpa using h)) h.2⟩
    intro L b w γ hs hJ hl haft hknow
    have hko := hk 0 o rfl
    have hin : ∀ d, waitsFor ops o d = true -> (dstsOf ops).contains d = true := fun d hd => by
     unfold waitsFor at hd
     rw [List.any_eq_true] at hd
     obtain ⟨e, he, hd⟩ := hd
     rw [Bool.and_eq_true] at hd
     have hk2 : (ops[e.on]?).bind (·.dst) = some d := by simpa using hd.2
     obtain ⟨oe, h1, h2⟩ := Option.bind_eq_some_iff.1 hk2
     have : d ∈ dstsOf ops := by
      unfold dstsOf
      rw [List.mem_filterMap]
      exact ⟨oe, by
       obtain ⟨hlt, rfl⟩ := Array.getElem?_eq_some_iff.1 h1
       simp, h2⟩
     simpa using this
    have hw : ∀ d, waitsFor ops o d = true -> knowsAt ops o d = true := fun d hd => by
     unfold knowsAt waitsFor at *
     rw [hd, Bool.or_true]
    refine wpOp_mono ?_ (h.1 (by simpa using hko) L b w γ hs hJ hl haft (fun d x hc hx => ?_) (fun d x hw1 hx => ?_) (fun d hw1 => ?_))
    ·rintro a2 w2 ⟨v, γ', rfl, hj2, hval, hmono⟩
     refine ⟨v, γ', rfl, hj2, fun d hd => ?_, fun d v hne h => ?_⟩
     ·have : (dstsOf ops).contains d = true := by
       have : d ∈ dstsOf ops := by
        unfold dstsOf
        rw [List.mem_filterMap]
        exact ⟨o, by
         obtain ⟨hlt, rfl⟩ := Array.getElem?_eq_some_iff.1 hko
         simp, hd⟩
       simpa using this
      simp only [this, if_true]
      exact hval d hd
     ·by_cases hc : (dstsOf ops).contains d = true
      ·simp only [hc, if_true] at h ⊢
       exact ⟨h.1, hmono d v hne h.2⟩
      ·simp only [hc] at h ⊢
       exact h
    ·by_cases hd : d < a.tmps.size
     ·have := hknow d hd (by unfold knowsAt; rw [hc]; rfl)
      simp only [hc] at this
      rw [<- hx]
      simpa using this
     ·rw [<- hx]
      exact hout b hs d hd
    ·have := hknow d (hlt d (hin d hw1)) (hw d hw1)
     simp only [hin d hw1, if_true] at this
     exact this.1 x hx
    ·have := hknow d (hlt d (hin d hw1)) (hw d hw1)
     simp only [hin d hw1, if_true] at this
     exact this.2
  exact key ops.toList 0 (fun i o h => by rw [Nat.zero_add]; simpa using h) hsteps
 ·refine hend a' w' γ e1 e2 hj (fun d x hc hx => ?_) (fun d x hc hx => ?_) (fun d hc => ?_)
  ·by_cases hd : d < a.tmps.size
   ·have := hv d hd
    simp only [hc] at this
    rw [<- hx]
    simpa using this
   ·rw [<- hx]
    exact hout a' e2 d hd
  ·have := hv d (hlt d hc)
   simp only [hc, if_true] at this
   exact this.1 x hx
  ·have := hv d (hlt d hc)
   simp only [hc, if_true] at this
   exact this.2
end
end Go.Proofs.YtcljlnagpjilaaaGreatDoor
namespace Go.Proofs.YtcljlnagpjilaaaGreatDoor
open Go.ChangeShapes Go.WideShapes Go.ChangeAt Go.RowKit
theorem info_op : (Tryz.prog.info? 82).map (fun i => (i.zero, i.size, i.bytes)) = some (some (.agg #[.int .i64 0, .int .i64 0, .int .i64 0]), 3, 24) := by kernel_rfl
theorem row_op : Row Tryz.prog 38 82 eOp 24 := row_of info_op Tryz.underlying38 rfl rfl (by decide)
end Go.Proofs.YtcljlnagpjilaaaGreatDoor
