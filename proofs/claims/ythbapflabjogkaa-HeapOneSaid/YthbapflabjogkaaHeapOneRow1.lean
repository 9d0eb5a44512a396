/-
  slices.SortStableFunc at spots: the row is sorted, those of one depth stay in order. Conditions: the row is the call's own (OW).
  hedgref.MapKeys: what it answers. Conditions: the list reads as l (RD).
  hedgkeep.HeapOne: the walk: it answers true. Conditions: the list reads as l (RD).
  hedgkeep.HeapOne: THE STATEMENT: for every input it answers true. Conditions: none.
-/
import Derived.Test.YthbapflabjogkaaHeapOneM34
import Derived.Test.YthbapflabjogkaaHeapOneM3
import Derived.Test.YthbapflabjogkaaHeapOneM27
import Derived.Test.YthbapflabjogkaaHeapOneM28
import Derived.Test.YthbapflabjogkaaHeapOneM12
import Derived.Test.YthbapflabjogkaaHeapOneM4

namespace Go.Proofs.Ythbapflabjogkaa
open Go.ChangeShapes Go.WideShapes Go.ChangeAt Go.RowKit
set_option linter.unusedVariables false
set_option linter.unusedSimpArgs false

def SmPost (w : World) (e : Ending) (w' : World) : Prop := e = .returned (.tuple #[]) ∧ w = w'
set_option maxRecDepth 100000 in
theorem ins_none (A : Option Addr) (n c : Nat) (fv : Value) (w : World) : Calls Try.prog 42 #[.slice A n c, .int .i64 0, .int .i64 0, fv] w (SmPost w) := by
  go_enter Try.func42, Try.ntmps42
  go_wp2
  go_loopw [8] (fun iv wr => iv = .int .i64 1 ∧ w = wr) (fun _ _ => 0)
  case atStart => exact ⟨rfl, rfl⟩
  case round =>
    obtain ⟨rfl, rfl⟩ := hrel
    go_wp2
    exact bodyPost_ret (v := .tuple #[]) (by simp [results, Try.results42, go_sem]) rfl ⟨rfl, rfl⟩
set_option maxRecDepth 100000 in
theorem stable_none (A : Option Addr) (c : Nat) (fv : Value) (w : World) : Calls Try.prog 33 #[.slice A 0 c, .int .i64 0, fv] w (SmPost w) := by
  have HI := hide (fun W => ins_none A 0 c fv W)
  go_enter Try.func33, Try.ntmps33
  go_wp2
  go_loopw [7, 8] (fun av bv wr => av = .int .i64 0 ∧ bv = .int .i64 20 ∧ w = wr) (fun _ _ _ => 0)
  case atStart => exact ⟨rfl, rfl, rfl⟩
  case round =>
    obtain ⟨rfl, rfl, rfl⟩ := hrel
    go_wp2_with fail
    with_reducible refine (HI.out _).mono ?_
    rintro e w1 ⟨rfl, rfl⟩
    go_wp2
    go_loopw [6] (fun sv wr => sv = .int .i64 20 ∧ w = wr) (fun _ _ => 0)
    case atStart => exact ⟨rfl, rfl⟩
    case round =>
      obtain ⟨rfl, rfl⟩ := hrel
      go_wp2
      exact bodyPost_ret (v := .tuple #[]) (by simp [results, Try.results33, go_sem]) rfl ⟨rfl, rfl⟩
/-- What SortStableFunc leaves of a row of the call's own. -/
def SsPost (B : Nat) (e : TypeId) (v : Value) (l : List IP) (w : World) (en : Ending) (w' : World) : Prop :=
  en = .returned (.tuple #[]) ∧ ∃ l', SortedK nk l' ∧ StabEq nk l l' ∧ l'.length = l.length ∧ OW w' B e ePair v l' ∧ Kf (fun i => v.ownBlock = some i) w w'
set_option maxRecDepth 100000 in
theorem sortStable_any (l : List IP) (v : Value) (B : Nat) (w : World) (hn : l.length ≤ 1000) (ho : OW w B 37 ePair v l) :
    Calls Try.prog 20 #[v, .func (.func 21) #[] #[]] w (SsPost B 37 v l w) := by
  by_cases h0 : l.length = 0
  · obtain rfl : l = [] := List.eq_nil_of_length_eq_zero h0
    have HO := hide ho
    obtain ⟨A, c, rfl, _, _⟩ := ho.rd.shape
    have HSN := hide (fun W fv => stable_none A c fv W)
    clear ho h0
    simp only [List.length_nil] at HO ⊢
    go_enter Try.func20, Try.ntmps20
    go_wp2_with fail
    with_reducible refine (HSN.out _ _).mono ?_
    rintro e w1 ⟨rfl, rfl⟩
    go_wp2
    exact bodyPost_ret (v := .tuple #[]) (by simp [results, Try.results20, go_sem]) rfl ⟨rfl, [], List.Pairwise.nil, StabEq.refl _, rfl, HO.out, Kf.refl _ _⟩
  · obtain ⟨g, c, rfl, _, _⟩ := ho.shape (by omega)
    have HSN := hide (stable_any l l.length c g B w hn ho)
    clear ho
    go_enter Try.func20, Try.ntmps20
    go_wp2_with fail
    with_reducible refine HSN.out.mono ?_
    rintro e w1 ⟨rfl, l', h1, h2, h3, ho1, hk1⟩
    have H1 := hide (And.intro h1 (And.intro h2 h3))
    have HO1 := hide ho1
    have HK1 := hide hk1
    clear h1 h2 h3 ho1 hk1
    go_wp2
    exact bodyPost_ret (v := .tuple #[]) (by simp [results, Try.results20, go_sem]) rfl ⟨rfl, l', H1.out.1, H1.out.2.1, H1.out.2.2, HO1.out, HK1.out.mono (fun i _ h => by simp [Value.ownBlock, h])⟩
end Go.Proofs.Ythbapflabjogkaa
namespace Go.Proofs.Ythbapflabjogkaa
open Go.ChangeShapes Go.WideShapes Go.ChangeAt Go.RowKit
set_option linter.unusedVariables false
set_option linter.unusedSimpArgs false

def MkRel (l : List IP) (w : World) (ov iv : Value) (wr : World) : Prop := ∃ k : Nat, k ≤ l.length ∧ iv = .int .i64 k ∧ OW wr w.heap.size 3 eInt ov ((l.take k).map Prod.fst) ∧ Kp w wr
set_option maxRecDepth 100000 in
set_option maxHeartbeats 1000000 in
theorem mapKeys_any (l : List IP) (v : Value) (w : World) (hr : RD w ePair v l) (hn : l.length ≤ 1000000) : Calls Try.prog 23 #[v] w (RetOW 3 eInt (l.map Prod.fst) w) := by
  obtain ⟨A, c, rfl, hc, hm⟩ := hr.shape
  have HR := hide hr
  clear hr
  go_enter Try.func23, Try.ntmps23
  go_wp2
  go_loopw [3, 8] (MkRel l w) (fun _ i _ => l.length - (intOf i).toNat)
  case atStart => exact ⟨0, by omega, rfl, OW.nil, Kp.refl _⟩
  case round =>
    obtain ⟨k, hk, rfl, ho, hkp⟩ := hrel
    have hi := ho.hi
    have HO := hide ho
    obtain ⟨u, hu⟩ : ∃ u, u = u3 := ⟨_, rfl⟩
    by_cases hlt : k < l.length
    · obtain ⟨b, o, rfl, _, x0, x1⟩ := (HR.out.kp hkp).pair hlt
      obtain ⟨y, hy⟩ : ∃ y, y = l[k].1 := ⟨_, rfl⟩
      rw [← hy] at x0
      have HN : Hid ((l.take k).map Prod.fst ++ [y] = (l.take (k + 1)).map Prod.fst) := hide (by rw [List.take_succ_eq_append_getElem hlt, List.map_append, hy]; rfl)
      have HM1 : Hid ((((l.take k).map Prod.fst).length + [y].length) * 8 ≤ 140737488355328) := hide (by simp; omega)
      have HM2 : Hid (((l.take k).map Prod.fst).length + [y].length ≤ maxLen) := hide (by simp [maxLen]; omega)
      clear hy ho hu
      go_wp2_with (at_builtin; (with_reducible refine list_app (B := w.heap.size) (l := (l.take k).map Prod.fst) (m := [y]) row_int u3 ?_ (.tmp 12) (.tmp 15) ?_ ?_ ?_ ?_ HM1.out HM2.out ?_ ?_); (with_reducible rfl); (with_reducible rfl); rfl; ((with_reducible apply OW.alloc); (with_reducible apply OW.alloc); exact HO.out); (show RD _ _ (.slice (some ⟨_, 0, none⟩) 1 1) _; (focus ((repeat (first | (with_reducible assumption) | exact RD.new1 _ rfl | (refine RD.new1e _ ?_ rfl; simp; done) | (with_reducible apply RD.alloc) | (with_reducible apply RD.drew) | (with_reducible apply RD.drewN) | ((with_reducible apply RD.belowR); (with_reducible assumption)))); done))); (have := hkp.size; simp; omega); intro v3 w3 ho3 hg3 hat3)
      go_roundw
      case rel => exact ⟨k + 1, by omega, by go_num, by rw [← HN.out]; exact ho3, Kp.app hg3 hkp.alloc.alloc hi⟩
      case measure => simp [intOf]; omega
    · have hkl : Hid ((l.take k).map Prod.fst = l.map Prod.fst) := hide (by rw [List.take_of_length_le (by omega)])
      clear ho hu
      go_wp2
      go_ret
      exact ⟨_, rfl, by rw [← hkl.out]; exact HO.out, hkp.bel⟩

end Go.Proofs.Ythbapflabjogkaa
namespace Go.Proofs.Ythbapflabjogkaa
open Go.ChangeShapes Go.WideShapes Go.ChangeAt Go.RowKit
set_option linter.unusedVariables false
set_option linter.unusedSimpArgs false

set_option maxRecDepth 100000 in
set_option maxHeartbeats 8000000 in
theorem heapOne_walk (l : List IP) (v : Value) (w : World) (hr : RD w ePair v l) : Calls Try.prog 7 #[v] w (Ret (.bool true) w) := by
  obtain ⟨A, c, rfl, hc, hm⟩ := hr.shape
  have HR := hide hr
  clear hr
  have HHO := hide (fun W v h => heapOf_any l v W h)
  by_cases h0 : mapRight l = 0
  · have hlen := mapRight_len l h0
    have hho : heapOf l = ((heapTree l).spots 0, 0) := by rw [heapOf, if_pos h0]
    have HLAW := hide (fun l' a b c => heap_one l l' h0 a b c)
    obtain ⟨S, hS⟩ : ∃ S, S = (heapTree l).spots 0 := ⟨_, rfl⟩
    rw [← hS] at hho HLAW
    rw [hho] at HHO
    have HCL := hide (fun W v h => clonePairs_any l v W h (by omega))
    have HSO := hide (fun v B W h => sortStable_any l v B W (by omega) h)
    have hlen2 := hlen
    have HLN : Hid (l.length ≤ 1000000) := hide (by omega)
    clear h0 hho hS
    go_enter Try.func7, Try.ntmps7
    go_wp2_with fail
    with_reducible refine ((HHO).out _ _ (HR.out)).mono ?_
    rintro e w1 ⟨v1, rfl, hr1, hb1⟩
    have kk1 := Kp.of hb1
    have HR1 := hide hr1
    clear hr1 hb1
    go_wp2_with fail
    with_reducible refine (heapLives_any _).mono ?_
    rintro e w2 ⟨rfl, hb2⟩
    have kk2 := Kp.of hb2
    clear hb2
    go_wp2_with fail
    with_reducible refine (HCL.out _ _ (HR.out.kp (kk1.trans kk2))).mono ?_
    rintro e w3 ⟨v3, rfl, ho3, hb3⟩
    have kk3 := Kp.of hb3
    have HO3 := hide ho3
    have HS3 := hide (HSO.out v3 _ w3 ho3)
    clear ho3 hb3
    go_wp2_with fail
    with_reducible refine HS3.out.mono ?_
    rintro e w4 ⟨rfl, l', hs1, hs2, hs3, ho4, hk4⟩
    have kk4 : Kp w2 w4 := hk4.kp kk3 (fun i h => (HO3.out.lt _ h).1)
    have HLW := hide (HLAW.out l' hs1 hs2 hs3)
    have HL4 : Hid (l'.length ≤ 1000000) := hide (by rw [hs3]; exact HLN.out)
    have HMK := hide (mapKeys_any l' v3 w4 ho4.rd HL4.out)
    obtain ⟨F, hF⟩ : ∃ F, F = l'.map Prod.fst := ⟨_, rfl⟩
    rw [← hF] at HLW HMK
    have HGO := hide (fun W v h => growOf_any F v W h)
    rw [HLW.out] at HGO
    clear hs1 hs2 hs3 ho4 hk4 HS3 HO3 hF
    go_wp2_with fail
    with_reducible refine HMK.out.mono ?_
    rintro e w5 ⟨v5, rfl, ho5, hb5⟩
    have kk5 := Kp.of hb5
    have HR5 := hide ho5.rd
    clear ho5 hb5
    go_wp2_with fail
    with_reducible refine ((HGO).out _ _ (HR5.out)).mono ?_
    rintro e w6 ⟨v6, rfl, hr6, hb6⟩
    have kk6 := Kp.of hb6
    have HR6 := hide hr6
    clear hr6 hb6
    go_wp2_with fail
    with_reducible refine (eqSpots_to S S true _ _ _ (HR1.out.kp (kk2.trans (kk4.trans (kk5.trans kk6)))) HR6.out (by simp)).mono ?_
    rintro e w7 ⟨rfl, hb7⟩
    have kk7 := Kp.of hb7
    clear hb7
    go_wp2
    go_ret
    exact ⟨rfl, (kk1.trans (kk2.trans (kk4.trans (kk5.trans (kk6.trans kk7))))).bel⟩
  · have hho : heapOf l = ([], mapRight l) := by rw [heapOf, if_neg h0]
    obtain ⟨r, hr⟩ : ∃ r, r = mapRight l := ⟨_, rfl⟩
    rw [hho, ← hr] at HHO
    have d1 : (r != 0) = true := by rw [hr]; simpa using h0
    clear h0 hho hr
    go_enter Try.func7, Try.ntmps7
    go_wp2_with fail
    with_reducible refine ((HHO).out _ _ (HR.out)).mono ?_
    rintro e w1 ⟨v1, rfl, hr1, hb1⟩
    have kk1 := Kp.of hb1
    have HR1 := hide hr1
    clear hr1 hb1
    obtain ⟨A1, c1, rfl, _, _⟩ := HR1.out.shape
    go_wp2_with fail
    with_reducible refine (heapLives_any _).mono ?_
    rintro e w2 ⟨rfl, hb2⟩
    have kk2 := Kp.of hb2
    clear hb2
    go_wp2_with fail
    with_reducible refine (heapLives_any _).mono ?_
    rintro e w3 ⟨rfl, hb3⟩
    have kk3 := Kp.of hb3
    clear hb3
    go_wp2
    go_ret
    exact ⟨rfl, (kk1.trans (kk2.trans kk3)).bel⟩
end Go.Proofs.Ythbapflabjogkaa
namespace Go.Proofs.Ythbapflabjogkaa
open Go.ChangeShapes Go.WideShapes Go.ChangeAt Go.RowKit Go.Deep
set_option linter.unusedVariables false
set_option linter.unusedSimpArgs false

set_option maxRecDepth 100000 in
theorem heapOne_lifted (os : Os) (started : os.Started) (H : Type) (enc : TypeId × Value → H) :
    ReturnsInHanded {} Try.checked os 7 .any (Rows.heapOneSpec.pre6 enc Try.prog Try.f7 Rows.heapOneRow.domain false) (Rows.heapOneSpec.post enc Try.prog Try.f7 false true false false) := by
  refine returnsInHanded_of_change (C := Try.checked) own started (by kernel_rfl) Try.func7
    (ChangeSpec.witness6 (enc := enc) (C := Try.checked) false ⟨#[], #[.slice none 0 0], []⟩ 8 (by kernel_rfl) (by kernel_rfl) (by kernel_rfl) (by kernel_rfl)) ?_
  intro W base args ds gs before hval0 hW hcnd _
  have hval : ∀ (j : Nat) t v, Try.f7.params[j]? = some t → args[j]? = some v → Value.okWide Try.prog W .any base t v := hval0
  have hW' := hW
  obtain ⟨p, q, hA0, hV, rfl, hfz, hnd⟩ := hW
  have hA : DataW.TrodAll enc Try.prog W 0 (fun _ => true) true Try.f7.params.toList args.toList ds p := hA0
  rw [Try.params7] at hA hval
  obtain ⟨v0, vs0, d0, ds0, p0, q0, hargs, rfl, rfl, h0, r0⟩ := trodAll_cons hA
  obtain ⟨rfl, rfl, rfl⟩ := trodAll_nil r0
  obtain rfl : args = #[v0] := by cases args; simp_all
  obtain ⟨rfl, rfl⟩ := trodVars_none hV
  obtain ⟨a0, n0, c0, rfl⟩ := okWide_slice Try.underlying22 (hval 0 22 v0 rfl rfl)
  have lt0 : ∀ x ∈ p0, x.block < W.heap.size := by obtain ⟨m, hm⟩ := h0; exact DataW.trod_lt m _ _ _ hm
  obtain ⟨l0, w0⟩ := arg_pairs h0
  clear hA0 hval0
  refine (heapOne_walk l0 _ W w0).mono fun e W' ⟨he, bel⟩ => ?_
  subst he
  exact ⟨_, rfl, _, _, _, [], _, [], hW', trodAll_mk1 (shut_bool Try.underlying4 _), (trodAll_cons_mk (Below.trod laidOut (by kernel_rfl) (of_decide_eq_true (by kernel_rfl)) h0 bel lt0) trodAll_mk0), rfl, bel.frame _, fun h => by cases h⟩

set_option maxRecDepth 100000 in
set_option maxHeartbeats 8000000 in
theorem heapOne_closed : joinedFacts Try.checked.prog 7 Try.f7 Rows.heapOneSpec Rows.heapOneRow = true := by
  unfold joinedFacts
  repeat' (with_reducible refine and_true_of ?_ ?_)
  all_goals (as_aux_lemma => kernel_rfl)
theorem heapOne_over : Rows.heapOneRow.holds Try.pinned (OpenSpec.ofChange Rows.heapOneSpec) :=
  OpenClaim.holds_of_wide 7 Try.f7 rfl rfl rfl rfl rfl rfl rfl ⟨rfl, rfl, rfl, rfl, rfl⟩ rfl rfl rfl rfl rfl (by as_aux_lemma => kernel_rfl) Try.func7 heapOne_closed
    (of_decide_eq_true (by as_aux_lemma => kernel_rfl)) (by as_aux_lemma => unfold Func.isWrapper; first | (rw [if_pos (by decide +kernel)]; kernel_rfl) | (rw [if_neg (by decide +kernel)]; exact ⟨rfl, rfl⟩))
    (fun os started H enc _ => heapOne_lifted os started H enc)
theorem heapOne_proved : Rows.HeapOneSaid := heapOne_over
#print axioms heapOne_proved
end Go.Proofs.Ythbapflabjogkaa
