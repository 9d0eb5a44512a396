/-
  shape.Check, shape.Order (but for way 3), shape.Sum: what they answer. Conditions: the list reads as l (RD).
-/
import Derived.Test.YtcpponjknmkfaaaWalk
import Derived.Test.YtcpponjknmkfaaaShapeOf
import Derived.Test.YtcpponjknmkfaaaParLaw
namespace Go.Proofs.Ytcpponjknmkfaaa
open Go.ChangeShapes Go.WideShapes Go.ChangeAt Go.RowKit
set_option linter.unusedVariables false
set_option linter.unusedSimpArgs false

theorem PT.deps_lt : ∀ (t : PT) (d : Int), ∀ e ∈ t.deps d, e < d + t.size
  | .nil, d, e, h => by simp [deps] at h
  | .node p l r, d, e, h => by
    simp only [deps, List.mem_append, List.mem_singleton] at h
    simp only [size]
    rcases h with (h | rfl) | h
    · have := deps_lt l (d + 1) e h; omega
    · omega
    · have := deps_lt r (d + 1) e h; omega
theorem gv_bound (l : List IP) (h : (parOf l).2 = 0) (k : Nat) (hk : k < l.length) : 0 ≤ l[k].2 ∧ l[k].2 < 200 := by
  obtain ⟨h1, h2, t, ht, _⟩ := parOf_len l h
  obtain ⟨h3, h4, h5⟩ := ptR_to l 0 l.length 0 t (by omega) ht
  have h6 := h5 k (by omega)
  rw [Nat.zero_add, gv_eq l k hk] at h6
  have h7 := List.mem_of_getElem? h6.symm
  have := PT.deps_ge t 0 _ h7
  have := PT.deps_lt t 0 _ h7
  omega
set_option maxHeartbeats 1000000 in
theorem shapeCheck_any (l : List IP) (v : Value) (w : World) (hr : RD w ePair v l) : Calls Try.prog 14 #[v] w (Ret (.int .i64 (parOf l).2) w) := by
  have HR := hide hr
  have HRD := hide (fun W v h => read_any l v W h)
  obtain ⟨P, hP⟩ : ∃ P, P = parOf l := ⟨_, rfl⟩
  rw [← hP] at HRD ⊢
  obtain ⟨a, r⟩ := P
  clear hr hP
  go_enter Try.func14, Try.ntmps14
  go_wp2_with fail
  with_reducible refine (HRD.out _ _ HR.out).mono ?_
  rintro e w1 ⟨v1, rfl, hr1, hb1⟩
  obtain ⟨A1, c1, rfl, _, _⟩ := hr1.shape
  clear hr1
  go_wp2
  go_ret
  exact ⟨rfl, hb1⟩
def ord3 (l : List IP) : List Int := (l.mergeSort (fun a b => decide (a.2 ≤ b.2))).map Prod.fst
def orderOf (l : List IP) (way : Int) : List Int × Int :=
  if (parOf l).2 ≠ 0 then ([], (parOf l).2) else if way = 1 then (walkF l false 0 l.length, 0) else if way = 2 then (walkF l true 0 l.length, 0) else if way = 3 then (ord3 l, 0) else ([], 1)
set_option maxRecDepth 100000 in
set_option maxHeartbeats 4000000 in
theorem order_any (l : List IP) (way : Int) (v : Value) (w : World) (hr : RD w ePair v l) (hw : way ≠ 3) : Calls Try.prog 11 #[v, .int .i64 way] w (Ret2 eInt (orderOf l way) w) := by
  obtain ⟨A, c, rfl, hc, hm⟩ := hr.shape
  have HR := hide hr
  have HCK := hide (fun W v h => shapeCheck_any l v W h)
  clear hr
  by_cases h0 : (parOf l).2 = 0
  · obtain ⟨hlen, _⟩ := parOf_len l h0
    rw [h0] at HCK
    have ho : orderOf l way = if way = 1 then (walkF l false 0 l.length, 0) else if way = 2 then (walkF l true 0 l.length, 0) else if way = 3 then (ord3 l, 0) else ([], 1) := by rw [orderOf, if_neg (by simp [h0])]
    have HC := hide (fun last B W (hr : RD W ePair (.slice A l.length c) l) (hv : 0 < l.length → Lo B (.slice A l.length c)) ho hb => walk_any l (.slice A l.length c) B B last (by omega) (Nat.le_refl _) hv l.length 0 l.length [] W (by omega) (by omega) (by omega) (by simp; omega) hr ho hb)
    have hd3 : (way == 3) = false := by simp [hw]
    clear h0
    by_cases h1 : way = 1
    · subst h1
      have H1 : Hid (orderOf l 1 = (walkF l false 0 l.length, 0)) := hide (by rw [ho, if_pos rfl])
      clear ho hw hd3
      go_enter Try.func11, Try.ntmps11
      go_wp2_with fail
      with_reducible refine (HCK.out _ _ HR.out).mono ?_
      rintro e w1 ⟨rfl, hb1⟩
      have k1 : Kp w w1 := hb1
      have HK1 := hide k1
      have HR1 := hide (HR.out.kp k1)
      have HO := hide (OB.new (B := w1.heap.size) (st := 23) (e := 3) (E := eInt) w1 (Nat.le_refl _))
      clear hb1 k1
      go_wp2_with fail
      refine (HC.out false w1.heap.size _ (HR1.out.alloc _) (fun h0 => HR1.out.lo h0) HO.out (by simp)).mono ?_
      rintro e w2 ⟨rfl, ho2, hk2⟩
      have k2 := hk2.none (HK1.out.alloc) HK1.out.size (by simp [go_sem])
      rw [List.nil_append] at ho2
      obtain ⟨u, hb, hu, hn⟩ := ho2
      have g0 := hb.cell 0
      obtain ⟨A3, N3, c3, rfl⟩ := hu.rd.slice
      have HU := hide hu.rd
      have K2 := hide k2
      clear hk2 hb hu hn k2
      go_wp2
      go_ret2
      exact ⟨_, by rw [H1.out]; rfl, by rw [H1.out]; exact HU.out, K2.out.bel⟩
    · by_cases h2 : way = 2
      · subst h2
        have H1 : Hid (orderOf l 2 = (walkF l true 0 l.length, 0)) := hide (by rw [ho]; rfl)
        clear ho hw hd3 h1
        go_enter Try.func11, Try.ntmps11
        go_wp2_with fail
        with_reducible refine (HCK.out _ _ HR.out).mono ?_
        rintro e w1 ⟨rfl, hb1⟩
        have k1 : Kp w w1 := hb1
        have HK1 := hide k1
        have HR1 := hide (HR.out.kp k1)
        have HO := hide (OB.new (B := w1.heap.size) (st := 23) (e := 3) (E := eInt) w1 (Nat.le_refl _))
        clear hb1 k1
        go_wp2_with fail
        refine (HC.out true w1.heap.size _ (HR1.out.alloc _) (fun h0 => HR1.out.lo h0) HO.out (by simp)).mono ?_
        rintro e w2 ⟨rfl, ho2, hk2⟩
        have k2 := hk2.none (HK1.out.alloc) HK1.out.size (by simp [go_sem])
        rw [List.nil_append] at ho2
        obtain ⟨u, hb, hu, hn⟩ := ho2
        have g0 := hb.cell 0
        obtain ⟨A3, N3, c3, rfl⟩ := hu.rd.slice
        have HU := hide hu.rd
        have K2 := hide k2
        clear hk2 hb hu hn k2
        go_wp2
        go_ret2
        exact ⟨_, by rw [H1.out]; rfl, by rw [H1.out]; exact HU.out, K2.out.bel⟩
      · have H1 : Hid (orderOf l way = ([], 1)) := hide (by rw [ho, if_neg h1, if_neg h2, if_neg hw])
        have hd1 : (way == 1) = false := by simp [h1]
        have hd2 : (way == 2) = false := by simp [h2]
        clear ho hw h1 h2
        go_enter Try.func11, Try.ntmps11
        go_wp2_with fail
        with_reducible refine (HCK.out _ _ HR.out).mono ?_
        rintro e w1 ⟨rfl, hb1⟩
        have k1 : Kp w w1 := hb1
        go_wp2
        go_ret2
        exact ⟨_, by rw [H1.out]; rfl, by rw [H1.out]; exact RD.nil, k1.alloc.bel⟩
  · have H1 : Hid (orderOf l way = ([], (parOf l).2)) := hide (by rw [orderOf, if_pos h0])
    obtain ⟨r, hr⟩ : ∃ r, r = (parOf l).2 := ⟨_, rfl⟩
    rw [← hr] at HCK H1 h0
    have hne : (r != 0) = true := by simp [h0]
    clear h0 hr
    go_enter Try.func11, Try.ntmps11
    go_wp2_with fail
    with_reducible refine (HCK.out _ _ HR.out).mono ?_
    rintro e w1 ⟨rfl, hb1⟩
    go_wp2
    go_ret2
    exact ⟨_, by rw [H1.out]; rfl, by rw [H1.out]; exact RD.nil, hb1⟩
def mostL (l : List IP) : Int := l.foldl (fun m p => max m p.2) (-1)
def allL (l : List IP) : Int := (l.map Prod.snd).sum
def sumOf (l : List IP) : Int × Int × Int := if (parOf l).2 ≠ 0 then (0, 0, (parOf l).2) else (mostL l, allL l, 0)
theorem mostL_snoc (l : List IP) (k : Nat) (h : k < l.length) : mostL (l.take (k + 1)) = max (mostL (l.take k)) l[k].2 := by
  rw [List.take_succ_eq_append_getElem h, mostL, List.foldl_append]; rfl
theorem allL_snoc (l : List IP) (k : Nat) (h : k < l.length) : allL (l.take (k + 1)) = allL (l.take k) + l[k].2 := by
  rw [List.take_succ_eq_append_getElem h, allL, List.map_append, List.sum_append]; simp [allL]
def SmRel (l : List IP) (w : World) (mv av iv : Value) (wr : World) : Prop :=
  ∃ k : Nat, k ≤ l.length ∧ iv = .int .i64 k ∧ mv = .int .i64 (mostL (l.take k)) ∧ av = .int .i64 (allL (l.take k)) ∧ 0 ≤ allL (l.take k) ∧ allL (l.take k) ≤ 200 * (k : Int) ∧ Kp w wr
set_option maxRecDepth 100000 in
set_option maxHeartbeats 4000000 in
theorem sum_any (l : List IP) (v : Value) (w : World) (hr : RD w ePair v l) : Calls Try.prog 29 #[v] w (Ret (.tuple #[.int .i64 (sumOf l).1, .int .i64 (sumOf l).2.1, .int .i64 (sumOf l).2.2]) w) := by
  obtain ⟨A, c, rfl, hc, hm⟩ := hr.shape
  have HR := hide hr
  have HCK := hide (fun W v h => shapeCheck_any l v W h)
  clear hr
  by_cases h0 : (parOf l).2 = 0
  · obtain ⟨hlen, _⟩ := parOf_len l h0
    rw [h0] at HCK
    have H1 : Hid (sumOf l = (mostL l, allL l, 0)) := hide (by rw [sumOf, if_neg (by simp [h0])])
    have HGB := hide (gv_bound l h0)
    clear h0
    go_enter Try.func29, Try.ntmps29
    go_wp2_with fail
    with_reducible refine (HCK.out _ _ HR.out).mono ?_
    rintro e w1 ⟨rfl, hb1⟩
    have HK1 := hide (Kp.of hb1)
    clear hb1
    go_wp2
    go_loopw [6, 7, 17] (SmRel l w) (fun _ _ i _ => l.length - (intOf i).toNat)
    case atStart => exact ⟨0, by omega, rfl, rfl, rfl, by simp [allL], by simp [allL], HK1.out⟩
    case round =>
      obtain ⟨k, hk, rfl, rfl, rfl, ha0, ha1, hkp⟩ := hrel
      by_cases hlt : k < l.length
      · obtain ⟨b, o, rfl, _, c0, c1⟩ := (HR.out.kp hkp).pair hlt
        obtain ⟨g1, g2⟩ := HGB.out k hlt
        have hm1 := mostL_snoc l k hlt
        have hs1 := allL_snoc l k hlt
        obtain ⟨M, hM⟩ : ∃ M, M = mostL (l.take k) := ⟨_, rfl⟩
        obtain ⟨S, hS⟩ : ∃ S, S = allL (l.take k) := ⟨_, rfl⟩
        rw [← hM] at hm1 ⊢
        rw [← hS] at hs1 ha0 ha1 ⊢
        have HM := hide hm1
        have HS := hide hs1
        obtain ⟨d, hd⟩ : ∃ d, d = l[k].2 := ⟨_, rfl⟩
        rw [← hd] at c1 g1 g2 HM HS
        have hwr : IntKind.i64.wrap (S + d) = S + d := IntWalk.i64_in _ (by omega)
        clear hm1 hs1 hM hS hd
        go_wp2_with fail
        go_quiet (fail)
        go_wp2
        go_roundw
        case rel => exact ⟨k + 1, by omega, by go_num, by rw [HM.out]; congr 1; rw [Int.max_def]; split <;> split <;> omega, by rw [HS.out], by rw [HS.out]; omega, by rw [HS.out]; omega, (by (focus ((repeat (first | (with_reducible assumption) | (with_reducible exact Kp.refl _) | (with_reducible apply Kp.drew) | (with_reducible apply Kp.drewN) | ((with_reducible apply Kp.setR); (focus (first | (with_reducible assumption) | (simp; done) | (simp; omega)))) | (with_reducible apply Kp.alloc) | ((with_reducible apply Kp.call); (with_reducible assumption)) | ((with_reducible apply Kp.app); (with_reducible assumption)))); done)))⟩
        case measure => simp [intOf]; omega
      · have hS : Hid (l.take k = l) := hide (List.take_of_length_le (by omega))
        go_wp2
        go_ret3
        exact ⟨by rw [H1.out, hS.out]; rfl, hkp.bel⟩
  · have H1 : Hid (sumOf l = (0, 0, (parOf l).2)) := hide (by rw [sumOf, if_pos h0])
    obtain ⟨r, hr⟩ : ∃ r, r = (parOf l).2 := ⟨_, rfl⟩
    rw [← hr] at HCK H1 h0
    have hne : (r != 0) = true := by simp [h0]
    clear h0 hr
    go_enter Try.func29, Try.ntmps29
    go_wp2_with fail
    with_reducible refine (HCK.out _ _ HR.out).mono ?_
    rintro e w1 ⟨rfl, hb1⟩
    go_wp2
    go_ret3
    exact ⟨by rw [H1.out]; rfl, hb1⟩
end Go.Proofs.Ytcpponjknmkfaaa
