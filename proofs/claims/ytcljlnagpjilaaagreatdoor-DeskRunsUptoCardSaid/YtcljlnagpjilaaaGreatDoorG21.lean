/-
  Plain laws: what shape.parents makes of the spots of a tree of places
  shape.Check, shape.Order (but for way 3), shape.Sum: what they answer
  Plain laws: what is told node first makes the tree again, and each list that makes a tree 
  Plain laws: keys, places, spots of a tree that is written (MT)
  vine.read: what it answers
  zip.over, unzipped, zipped: what they answer
  zip.read: what it answers
-/
import Derived.Test.YtcljlnagpjilaaaGreatDoorG20
import Derived.Test.YtcljlnagpjilaaaGreatDoorG6
import Derived.Test.YtcljlnagpjilaaaGreatDoorG19
import Derived.Test.YtcljlnagpjilaaaGreatDoorG18
import Derived.BigQuiet
import Derived.Test.YtcljlnagpjilaaaGreatDoorG1

set_option linter.unusedVariables false
set_option linter.unusedSimpArgs false
set_option maxRecDepth 100000
set_option maxHeartbeats 8000000
namespace Go.Proofs.YtcljlnagpjilaaaGreatDoor
open Go.ChangeShapes Go.WideShapes Go.ChangeAt Go.RowKit
theorem PT.deps_ge : ∀ (t : PT) (d : Int), ∀ e ∈ t.deps d, d <= e
 | .nil, d, e, h => by simp [deps] at h
 | .node p l r, d, e, h => by
  simp only [deps, List.mem_append, List.mem_singleton] at h
  rcases h with (h | rfl) | h
  ·have := deps_ge l (d + 1) e h; omega
  ·omega
  ·have := deps_ge r (d + 1) e h; omega
theorem PT.deps_node (p : Nat) (l r : PT) (d : Int) (j : Nat) : ((PT.node p l r).deps d)[j]? = if j < l.size then (l.deps (d + 1))[j]? else if j = l.size then some d else (r.deps (d + 1))[j - (l.size + 1)]? := by
 have h := PT.deps_len l (d + 1)
 simp only [deps, List.append_assoc]
 rcases Nat.lt_trichotomy j l.size with hj | hj | hj
 ·rw [if_pos hj, List.getElem?_append_left (by omega)]
 ·rw [if_neg (by omega), if_pos hj, List.getElem?_append_right (by omega), h, hj, Nat.sub_self]; rfl
 ·rw [if_neg (by omega), if_neg (by omega), List.getElem?_append_right (by omega), h, show j - l.size = (j - (l.size + 1)) + 1 from by omega]; rfl
theorem topF_stay (l : List IP) (p : Nat) : ∀ n k, (∀ j, k <= j -> j < k + n -> gv l p < gv l j) -> topF l n k p true = (p, true)
 | 0, _, _ => rfl
 | n + 1, k, h => by
  have := h k (by omega) (by omega)
  rw [topF, if_neg (by omega), if_neg (by omega)]
  exact topF_stay l p n (k + 1) fun j a b => h j (by omega) (by omega)
theorem topF_find (l : List IP) (p : Nat) : ∀ n k a al, k <= p -> p < k + n -> gv l p < gv l a -> (∀ j, k <= j -> j < k + n -> j ≠ p -> gv l p < gv l j) -> topF l n k a al = (p, true)
 | 0, k, a, al, h1, h2, _, _ => by omega
 | n + 1, k, a, al, h1, h2, h3, h4 => by
  by_cases hkp : k = p
  ·subst hkp
   rw [topF, if_pos h3]
   exact topF_stay l k n (k + 1) fun j a b => h4 j (by omega) (by omega) (by omega)
  ·have hk := h4 k (by omega) (by omega) hkp
   rw [topF]
   split
   ·exact topF_find l p n (k + 1) k true (by omega) (by omega) hk fun j a b c => h4 j (by omega) (by omega) c
   ·split
    ·exact topF_find l p n (k + 1) a false (by omega) (by omega) h3 fun j a b c => h4 j (by omega) (by omega) c
    ·exact topF_find l p n (k + 1) a al (by omega) (by omega) h3 fun j a b c => h4 j (by omega) (by omega) c
theorem topS_find (l : List IP) (lo hi p : Nat) (h1 : lo <= p) (h2 : p < hi) (h : ∀ j, lo <= j -> j < hi -> j ≠ p -> gv l p < gv l j) : topS l lo hi = (p, true) := by
 unfold topS
 by_cases hp : lo = p
 ·subst hp
  exact topF_stay l lo _ _ fun j a b => h j (by omega) (by omega) (by omega)
 ·exact topF_find l p _ _ _ _ (by omega) (by omega) (h lo (by omega) (by omega) hp) fun j a b c => h j (by omega) (by omega) c
theorem ptR_of (l : List IP) : ∀ (t : PT) (lo hi : Nat) (d : Int), t.At lo -> hi = lo + t.size -> (∀ j, j < t.size -> some (gv l (lo + j)) = (t.deps d)[j]?) -> ptR l lo hi d = some t
 | .nil, lo, hi, d, _, h, _ => ptR_nil l lo hi d (by simp [PT.size] at h; omega)
 | .node p a b, lo, hi, d, ⟨hp, ha, hb⟩, h, hg => by
  simp only [PT.size] at h hg
  have hgp : gv l p = d := by
   have := hg a.size (by omega)
   rw [PT.deps_node, if_neg (by omega), if_pos rfl, <- hp] at this
   exact Option.some.inj this
  have hga : ∀ j, j < a.size -> some (gv l (lo + j)) = (a.deps (d + 1))[j]? := fun j hj => by
   have := hg j (by omega)
   rwa [PT.deps_node, if_pos hj] at this
  have hgb : ∀ j, j < b.size -> some (gv l (p + 1 + j)) = (b.deps (d + 1))[j]? := fun j hj => by
   have := hg (a.size + 1 + j) (by omega)
   rw [PT.deps_node, if_neg (by omega), if_neg (by omega), show a.size + 1 + j - (a.size + 1) = j from by omega, show lo + (a.size + 1 + j) = p + 1 + j from by omega] at this
   exact this
  have ht : topS l lo hi = (p, true) := topS_find l lo hi p (by omega) (by omega) fun j h1 h2 h3 => by
   rw [hgp]
   rcases Nat.lt_or_ge j p with hj | hj
   ·have := hga (j - lo) (by omega)
    rw [show lo + (j - lo) = j from by omega] at this
    have := PT.deps_ge a (d + 1) _ (List.mem_of_getElem? this.symm)
    omega
   ·have := hgb (j - (p + 1)) (by omega)
    rw [show p + 1 + (j - (p + 1)) = j from by omega] at this
    have := PT.deps_ge b (d + 1) _ (List.mem_of_getElem? this.symm)
    omega
  rw [ptR_node l lo hi d (by omega) p ht hgp, ptR_of l a lo p (d + 1) ha hp hga, ptR_of l b (p + 1) hi (d + 1) hb (by omega) hgb]
theorem ptR_to (l : List IP) (lo hi : Nat) (d : Int) (t : PT) (hlh : lo <= hi) (h : ptR l lo hi d = some t) : t.At lo /\ t.size = hi - lo /\ ∀ j, j < t.size -> some (gv l (lo + j)) = (t.deps d)[j]? := by
 by_cases h0 : lo < hi
 ·have ht := topS_in l lo hi h0
  by_cases h1 : (topS l lo hi).2 = true /\ gv l (topS l lo hi).1 = d
  ·rw [ptR_node l lo hi d h0 (topS l lo hi).1 (by rw [<- h1.1]) h1.2] at h
   cases ha : ptR l lo (topS l lo hi).1 (d + 1) with
   | none => rw [ha] at h; simp at h
   | some a =>
    cases hb : ptR l ((topS l lo hi).1 + 1) hi (d + 1) with
    | none => rw [ha, hb] at h; simp at h
    | some b =>
     rw [ha, hb] at h
     simp only [Option.some.injEq] at h
     subst h
     obtain ⟨h2, h3, h4⟩ := ptR_to l lo (topS l lo hi).1 (d + 1) a ht.1 ha
     obtain ⟨h5, h6, h7⟩ := ptR_to l ((topS l lo hi).1 + 1) hi (d + 1) b (by omega) hb
     refine ⟨⟨by omega, h2, h5⟩, by simp only [PT.size]; omega, fun j hj => ?_⟩
     simp only [PT.size] at hj
     rw [PT.deps_node]
     split
     ·exact h4 j (by omega)
     ·split
      ·rw [show lo + j = (topS l lo hi).1 from by omega, h1.2]
      ·have := h7 (j - (a.size + 1)) (by omega)
       rwa [show (topS l lo hi).1 + 1 + (j - (a.size + 1)) = lo + j from by omega] at this
  ·rw [ptR_none l lo hi d h0 h1] at h
   cases h
 ·rw [ptR_nil l lo hi d h0] at h
  injection h with h
  subst h
  exact ⟨trivial, by simp [PT.size]; omega, fun j hj => by simp [PT.size] at hj⟩
termination_by hi - lo
theorem parOf_tree (l : List IP) (t : PT) (hm : mapRight l = 0) (ha : t.At 0) (hs : t.size = l.length) (hd : ∀ j, j < l.length -> some (gv l j) = (t.deps 0)[j]?) : parOf l = (t.pars (-1), 0) := by
 rw [parOf, if_neg (by simp [hm]), ptR_of l t 0 l.length 0 ha (by omega) (fun j hj => by rw [Nat.zero_add]; exact hd j (by omega))]
theorem parOf_len (l : List IP) (h : (parOf l).2 = 0) : l.length <= 200 /\ mapRight l = 0 /\ ∃ t, ptR l 0 l.length 0 = some t /\ parOf l = (t.pars (-1), 0) := by
 unfold parOf at h
 by_cases h0 : mapRight l = 0
 ·rw [if_neg (by simp [h0])] at h
  cases ht : ptR l 0 l.length 0 with
  | none => rw [ht] at h; simp at h
  | some t => exact ⟨mapRight_len l h0, h0, t, rfl, by rw [parOf, if_neg (by simp [h0]), ht]⟩
 ·rw [if_pos h0] at h
  exact absurd h h0
theorem PT.deps_lt : ∀ (t : PT) (d : Int), ∀ e ∈ t.deps d, e < d + t.size
 | .nil, d, e, h => by simp [deps] at h
 | .node p l r, d, e, h => by
  simp only [deps, List.mem_append, List.mem_singleton] at h
  simp only [size]
  rcases h with (h | rfl) | h
  ·have := deps_lt l (d + 1) e h; omega
  ·omega
  ·have := deps_lt r (d + 1) e h; omega
theorem gv_bound (l : List IP) (h : (parOf l).2 = 0) (k : Nat) (hk : k < l.length) : 0 <= l[k].2 /\ l[k].2 < 200 := by
 obtain ⟨h1, h2, t, ht, _⟩ := parOf_len l h
 obtain ⟨h3, h4, h5⟩ := ptR_to l 0 l.length 0 t (by omega) ht
 have h6 := h5 k (by omega)
 rw [Nat.zero_add, gv_eq l k hk] at h6
 have h7 := List.mem_of_getElem? h6.symm
 have := PT.deps_ge t 0 _ h7
 have := PT.deps_lt t 0 _ h7
 omega
theorem shapeCheck_any (l : List IP) (v : Value) (w : World) (hr : RD w ePair v l) : Calls Tryz.prog 75 #[v] w (Ret (.int .i64 (parOf l).2) w) := by
 have HR := hide hr
 have HRD := hide (fun W v h => read_any l v W h)
 obtain ⟨P, hP⟩ : ∃ P, P = parOf l := ⟨_, rfl⟩
 rw [<- hP] at HRD ⊢
 obtain ⟨a, r⟩ := P
 clear hr hP
 go_enter Tryz.func75, Tryz.ntmps75
 go_wp2_with fail
 with_reducible refine (HRD.out _ _ HR.out).mono ?_
 rintro e w1 ⟨v1, rfl, hr1, hb1⟩
 obtain ⟨A1, c1, rfl, _, _⟩ := hr1.shape
 clear hr1
 go_wp2
 go_ret
 exact ⟨rfl, hb1⟩
def ord3 (l : List IP) : List Int := (l.mergeSort (fun a b => decide (a.2 <= b.2))).map Prod.fst
def orderOf (l : List IP) (way : Int) : List Int × Int :=
 if (parOf l).2 ≠ 0 then ([], (parOf l).2) else if way = 1 then (walkF l false 0 l.length, 0) else if way = 2 then (walkF l true 0 l.length, 0) else if way = 3 then (ord3 l, 0) else ([], 1)
theorem order_any (l : List IP) (way : Int) (v : Value) (w : World) (hr : RD w ePair v l) (hw : way ≠ 3) : Calls Tryz.prog 42 #[v, .int .i64 way] w (Ret2 eInt (orderOf l way) w) := by
 obtain ⟨A, c, rfl, hc, hm⟩ := hr.shape
 have HR := hide hr
 have HCK := hide (fun W v h => shapeCheck_any l v W h)
 clear hr
 by_cases h0 : (parOf l).2 = 0
 ·obtain ⟨hlen, _⟩ := parOf_len l h0
  rw [h0] at HCK
  have ho : orderOf l way = if way = 1 then (walkF l false 0 l.length, 0) else if way = 2 then (walkF l true 0 l.length, 0) else if way = 3 then (ord3 l, 0) else ([], 1) := by rw [orderOf, if_neg (by simp [h0])]
  have HC := hide (fun last B W (hr : RD W ePair (.slice A l.length c) l) (hv : 0 < l.length -> Lo B (.slice A l.length c)) ho hb => walk_any l (.slice A l.length c) B B last (by omega) (Nat.le_refl _) hv l.length 0 l.length [] W (by omega) (by omega) (by omega) (by simp; omega) hr ho hb)
  have hd3 : (way == 3) = false := by simp [hw]
  clear h0
  by_cases h1 : way = 1
  ·subst h1
   have H1 : Hid (orderOf l 1 = (walkF l false 0 l.length, 0)) := hide (by rw [ho, if_pos rfl])
   clear ho hw hd3
   go_enter Tryz.func42, Tryz.ntmps42
   go_wp2_with fail
   with_reducible refine (HCK.out _ _ HR.out).mono ?_
   rintro e w1 ⟨rfl, hb1⟩
   have k1 : Kp w w1 := hb1
   have HK1 := hide k1
   have HR1 := hide (HR.out.kp k1)
   have HO := hide (OB.new (B := w1.heap.size) (st := 69) (e := 3) (E := eInt) w1 (Nat.le_refl _))
   clear hb1 k1
   go_wp2_with fail
   refine (HC.out false w1.heap.size _ (HR1.out.alloc _) (fun h0 => HR1.out.lo h0) HO.out (by simp)).mono ?_
   rintro e w2 ⟨rfl, ho2, hk2⟩
   have k2 := hk2.none (HK1.out.alloc) HK1.out.size (by simp [go_sem])
   rw [List.nil_append] at ho2
   obtain ⟨u, hb, hu, hn⟩ := ho2
   have g0 := hb.cell 0
   obtain ⟨A3, N3, c3, rfl⟩ := hu.rd.slice
   have HU := hide hu.rd
   have K2 := hide k2
   clear hk2 hb hu hn k2
   go_wp2
   go_ret2
   exact ⟨_, by rw [H1.out]; rfl, by rw [H1.out]; exact HU.out, K2.out.bel⟩
  ·by_cases h2 : way = 2
   ·subst h2
    have H1 : Hid (orderOf l 2 = (walkF l true 0 l.length, 0)) := hide (by rw [ho]; rfl)
    clear ho hw hd3 h1
    go_enter Tryz.func42, Tryz.ntmps42
    go_wp2_with fail
    with_reducible refine (HCK.out _ _ HR.out).mono ?_
    rintro e w1 ⟨rfl, hb1⟩
    have k1 : Kp w w1 := hb1
    have HK1 := hide k1
    have HR1 := hide (HR.out.kp k1)
    have HO := hide (OB.new (B := w1.heap.size) (st := 69) (e := 3) (E := eInt) w1 (Nat.le_refl _))
    clear hb1 k1
    go_wp2_with fail
    refine (HC.out true w1.heap.size _ (HR1.out.alloc _) (fun h0 => HR1.out.lo h0) HO.out (by simp)).mono ?_
    rintro e w2 ⟨rfl, ho2, hk2⟩
    have k2 := hk2.none (HK1.out.alloc) HK1.out.size (by simp [go_sem])
    rw [List.nil_append] at ho2
    obtain ⟨u, hb, hu, hn⟩ := ho2
    have g0 := hb.cell 0
    obtain ⟨A3, N3, c3, rfl⟩ := hu.rd.slice
    have HU := hide hu.rd
    have K2 := hide k2
    clear hk2 hb hu hn k2
    go_wp2
    go_ret2
    exact ⟨_, by rw [H1.out]; rfl, by rw [H1.out]; exact HU.out, K2.out.bel⟩
   ·have H1 : Hid (orderOf l way = ([], 1)) := hide (by rw [ho, if_neg h1, if_neg h2, if_neg hw])
    have hd1 : (way == 1) = false := by simp [h1]
    have hd2 : (way == 2) = false := by simp [h2]
    clear ho hw h1 h2
    go_enter Tryz.func42, Tryz.ntmps42
    go_wp2_with fail
    with_reducible refine (HCK.out _ _ HR.out).mono ?_
    rintro e w1 ⟨rfl, hb1⟩
    have k1 : Kp w w1 := hb1
    go_wp2
    go_ret2
    exact ⟨_, by rw [H1.out]; rfl, by rw [H1.out]; exact RD.nil, k1.alloc.bel⟩
 ·have H1 : Hid (orderOf l way = ([], (parOf l).2)) := hide (by rw [orderOf, if_pos h0])
  obtain ⟨r, hr⟩ : ∃ r, r = (parOf l).2 := ⟨_, rfl⟩
  rw [<- hr] at HCK H1 h0
  have hne : (r != 0) = true := by simp [h0]
  clear h0 hr
  go_enter Tryz.func42, Tryz.ntmps42
  go_wp2_with fail
  with_reducible refine (HCK.out _ _ HR.out).mono ?_
  rintro e w1 ⟨rfl, hb1⟩
  go_wp2
  go_ret2
  exact ⟨_, by rw [H1.out]; rfl, by rw [H1.out]; exact RD.nil, hb1⟩
def mostL (l : List IP) : Int := l.foldl (fun m p => max m p.2) (-1)
def allL (l : List IP) : Int := (l.map Prod.snd).sum
def sumOf (l : List IP) : Int × Int × Int := if (parOf l).2 ≠ 0 then (0, 0, (parOf l).2) else (mostL l, allL l, 0)
theorem mostL_snoc (l : List IP) (k : Nat) (h : k < l.length) : mostL (l.take (k + 1)) = max (mostL (l.take k)) l[k].2 := by
 rw [List.take_succ_eq_append_getElem h, mostL, List.foldl_append]; rfl
theorem allL_snoc (l : List IP) (k : Nat) (h : k < l.length) : allL (l.take (k + 1)) = allL (l.take k) + l[k].2 := by
 rw [List.take_succ_eq_append_getElem h, allL, List.map_append, List.sum_append]; simp [allL]
def SmRel (l : List IP) (w : World) (mv av iv : Value) (wr : World) : Prop :=
 ∃ k : Nat, k <= l.length /\ iv = .int .i64 k /\ mv = .int .i64 (mostL (l.take k)) /\ av = .int .i64 (allL (l.take k)) /\ 0 <= allL (l.take k) /\ allL (l.take k) <= 200 * (k : Int) /\ Kp w wr
theorem sum_any (l : List IP) (v : Value) (w : World) (hr : RD w ePair v l) : Calls Tryz.prog 45 #[v] w (Ret (.tuple #[.int .i64 (sumOf l).1, .int .i64 (sumOf l).2.1, .int .i64 (sumOf l).2.2]) w) := by
 obtain ⟨A, c, rfl, hc, hm⟩ := hr.shape
 have HR := hide hr
 have HCK := hide (fun W v h => shapeCheck_any l v W h)
 clear hr
 by_cases h0 : (parOf l).2 = 0
 ·obtain ⟨hlen, _⟩ := parOf_len l h0
  rw [h0] at HCK
  have H1 : Hid (sumOf l = (mostL l, allL l, 0)) := hide (by rw [sumOf, if_neg (by simp [h0])])
  have HGB := hide (gv_bound l h0)
  clear h0
  go_enter Tryz.func45, Tryz.ntmps45
  go_wp2_with fail
  with_reducible refine (HCK.out _ _ HR.out).mono ?_
  rintro e w1 ⟨rfl, hb1⟩
  have HK1 := hide (Kp.of hb1)
  clear hb1
  go_wp2
  go_loopw [6, 7, 17] (SmRel l w) (fun _ _ i _ => l.length - (intOf i).toNat)
  case atStart => exact ⟨0, by omega, rfl, rfl, rfl, by simp [allL], by simp [allL], HK1.out⟩
  case round =>
   obtain ⟨k, hk, rfl, rfl, rfl, ha0, ha1, hkp⟩ := hrel
   by_cases hlt : k < l.length
   ·obtain ⟨b, o, rfl, _, c0, c1⟩ := (HR.out.kp hkp).pair hlt
    obtain ⟨g1, g2⟩ := HGB.out k hlt
    have hm1 := mostL_snoc l k hlt
    have hs1 := allL_snoc l k hlt
    obtain ⟨M, hM⟩ : ∃ M, M = mostL (l.take k) := ⟨_, rfl⟩
    obtain ⟨S, hS⟩ : ∃ S, S = allL (l.take k) := ⟨_, rfl⟩
    rw [<- hM] at hm1 ⊢
    rw [<- hS] at hs1 ha0 ha1 ⊢
    have HM := hide hm1
    have HS := hide hs1
    obtain ⟨d, hd⟩ : ∃ d, d = l[k].2 := ⟨_, rfl⟩
    rw [<- hd] at c1 g1 g2 HM HS
    have hwr : IntKind.i64.wrap (S + d) = S + d := IntWalk.i64_in _ (by omega)
    clear hm1 hs1 hM hS hd
    go_wp2_with fail
    go_quiet (fail)
    go_wp2
    go_roundw
    case rel => exact ⟨k + 1, by omega, by go_num, by rw [HM.out]; (try (congr 1; rw [Int.max_def]; split <;> split <;> omega)), by rw [HS.out], by rw [HS.out]; omega, by rw [HS.out]; omega, (by (exact Kp.auto))⟩
    case measure => simp [intOf]; omega
   ·have hS : Hid (l.take k = l) := hide (List.take_of_length_le (by omega))
    go_wp2
    go_ret3
    exact ⟨by rw [H1.out, hS.out]; rfl, hkp.bel⟩
 ·have H1 : Hid (sumOf l = (0, 0, (parOf l).2)) := hide (by rw [sumOf, if_pos h0])
  obtain ⟨r, hr⟩ : ∃ r, r = (parOf l).2 := ⟨_, rfl⟩
  rw [<- hr] at HCK H1 h0
  have hne : (r != 0) = true := by simp [h0]
  clear h0 hr
  go_enter Tryz.func45, Tryz.ntmps45
  go_wp2_with fail
  with_reducible refine (HCK.out _ _ HR.out).mono ?_
  rintro e w1 ⟨rfl, hb1⟩
  go_wp2
  go_ret3
  exact ⟨by rw [H1.out]; rfl, hb1⟩
theorem mapRight_of (l : List IP) (h1 : l.length <= 200) (h2 : l.Pairwise (fun a b => a.1 < b.1)) (h3 : ∀ x ∈ l, 0 <= x.1 /\ x.1 <= 1000000) : mapRight l = 0 := by
 rw [mapRight, if_neg (by omega)]
 have : ∀ (l : List IP) (last : Int), l.Pairwise (fun a b => a.1 < b.1) -> (∀ x ∈ l, last < x.1 /\ x.1 <= 1000000) -> mrFrom last l = 0 := by
  intro l
  induction l with
  | nil => intro _ _ _; rfl
  | cons p t ih =>
   intro last hr hb
   have hp := hb p (by simp)
   rw [List.pairwise_cons] at hr
   rw [mrFrom, if_pos ((btw_iff _ _ _).2 ⟨by omega, hp.2⟩)]
   exact ih p.1 hr.2 fun x hx => ⟨hr.1 x hx, (hb x (by simp [hx])).2⟩
 exact this l (-1) h2 fun x hx => ⟨by have := (h3 x hx).1; omega, (h3 x hx).2⟩
theorem walkF_mem (l : List IP) (last : Bool) (lo hi : Nat) : ∀ x ∈ walkF l last lo hi, ∃ k, lo <= k /\ k < hi /\ x = gk l k := by
 by_cases h : lo < hi
 ·have ht := topS_in l lo hi h
  have h1 := walkF_mem l last lo (topS l lo hi).1
  have h2 := walkF_mem l last ((topS l lo hi).1 + 1) hi
  intro x hx
  have : x = gk l (topS l lo hi).1 ∨ x ∈ walkF l last lo (topS l lo hi).1 ∨ x ∈ walkF l last ((topS l lo hi).1 + 1) hi := by
   cases last
   ·rw [walkF_first l lo hi h] at hx; simpa [or_assoc] using hx
   ·rw [walkF_last l lo hi h] at hx
    simp only [List.mem_append, List.mem_singleton] at hx
    rcases hx with (hx | hx) | hx
    ·exact .inr (.inl hx)
    ·exact .inr (.inr hx)
    ·exact .inl hx
  rcases this with rfl | hx | hx
  ·exact ⟨_, ht.1, ht.2, rfl⟩
  ·obtain ⟨k, a, b, c⟩ := h1 x hx; exact ⟨k, a, by omega, c⟩
  ·obtain ⟨k, a, b, c⟩ := h2 x hx; exact ⟨k, by omega, b, c⟩
 ·rw [walkF_nil l last lo hi h]; simp
termination_by hi - lo
def keysM {α : Type} (kf : α -> Int) : MT α -> List Int
 | .nil => []
 | .node a l r => keysM kf l ++ [kf a] ++ keysM kf r
theorem keysM_len {α : Type} (kf : α -> Int) : ∀ t : MT α, (keysM kf t).length = t.size
 | .nil => rfl
 | .node a l r => by simp [keysM, MT.size, keysM_len kf l, keysM_len kf r]; omega
theorem spotsBy_keys {α : Type} (kf : α -> Int) : ∀ (t : MT α) (d : Int), (t.spotsBy kf d).map Prod.fst = keysM kf t
 | .nil, _ => rfl
 | .node a l r, d => by simp [MT.spotsBy, keysM, spotsBy_keys kf l, spotsBy_keys kf r]
def ptM {α : Type} : MT α -> Nat -> PT
 | .nil, _ => .nil
 | .node _ l r, off => .node (off + l.size) (ptM l off) (ptM r (off + l.size + 1))
theorem ptM_size {α : Type} : ∀ (t : MT α) (off : Nat), (ptM t off).size = t.size
 | .nil, _ => rfl
 | .node a l r, off => by simp [ptM, PT.size, MT.size, ptM_size l, ptM_size r]
theorem ptM_at {α : Type} : ∀ (t : MT α) (off : Nat), (ptM t off).At off
 | .nil, _ => trivial
 | .node a l r, off => ⟨by rw [ptM_size], ptM_at l off, ptM_at r _⟩
theorem ptM_deps {α : Type} (kf : α -> Int) : ∀ (t : MT α) (off : Nat) (d : Int), (ptM t off).deps d = (t.spotsBy kf d).map Prod.snd
 | .nil, _, _ => rfl
 | .node a l r, off, d => by simp [ptM, PT.deps, MT.spotsBy, ptM_deps kf l, ptM_deps kf r]
theorem spotsBy_right {α : Type} (kf : α -> Int) (t : MT α) (h1 : t.size <= 200) (h2 : (keysM kf t).Pairwise (fun a b => a < b)) (h3 : ∀ x ∈ keysM kf t, 0 <= x /\ x <= 1000000) : parOf (t.spotsBy kf 0) = ((ptM t 0).pars (-1), 0) := by
 have hk := spotsBy_keys kf t 0
 have hl := MT.spotsBy_len kf t 0
 have hm : mapRight (t.spotsBy kf 0) = 0 := mapRight_of _ (by omega) (by rw [<- hk] at h2; exact List.pairwise_map.1 h2) (fun x hx => h3 _ (by rw [<- hk]; exact List.mem_map_of_mem hx))
 refine parOf_tree _ (ptM t 0) hm (ptM_at t 0) (by rw [ptM_size, hl]) fun j hj => ?_
 rw [ptM_deps kf, gv_eq _ j hj]
 simp [List.getElem?_eq_getElem hj]
def ov (a c : IP) : Bool := decide (c.2 < a.2) || (a.2 == c.2 && decide (a.1 < c.1))
def unz : MT IP -> Int -> MT IP × MT IP
 | .nil, _ => (.nil, .nil)
 | .node a l r, k => if a.1 < k then (.node a l (unz r k).1, (unz r k).2) else ((unz l k).1, .node a (unz l k).2 r)
def zipM : MT IP -> MT IP -> MT IP
 | .nil, t => t
 | .node a l r, .nil => .node a l r
 | .node a l r, .node c x y => if ov a c then .node a l (zipM r (.node c x y)) else .node c (zipM (.node a l r) x) y
termination_by t u => t.size + u.size
decreasing_by all_goals simp only [MT.size]; omega
theorem zipM_nil (t : MT IP) : zipM t .nil = t := by cases t <;> simp [zipM]
theorem zipM_node (a c : IP) (l r x y : MT IP) : zipM (.node a l r) (.node c x y) = if ov a c then .node a l (zipM r (.node c x y)) else .node c (zipM (.node a l r) x) y := by rw [zipM]
theorem over_any (b1 b2 : Nat) (a c : IP) (w : World) (x0 : w.cell? ⟨b1, 0, none⟩ = some (.int .i64 a.1)) (x1 : w.cell? ⟨b1, 1, none⟩ = some (.int .i64 a.2)) (y0 : w.cell? ⟨b2, 0, none⟩ = some (.int .i64 c.1)) (y1 : w.cell? ⟨b2, 1, none⟩ = some (.int .i64 c.2)) :
  Calls Tryz.prog 173 #[.pointer (some ⟨b1, 0, none⟩), .pointer (some ⟨b2, 0, none⟩)] w (Ret (.bool (ov a c)) w) := by
 obtain ⟨a1, a2⟩ := a
 obtain ⟨c1, c2⟩ := c
 simp only at x0 x1 y0 y1
 rcases Int.lt_trichotomy c2 a2 with h | h | h
 ·have H : Hid (ov (a1, a2) (c1, c2) = true) := hide (by simp [ov, h])
  have d1 : decide (c2 < a2) = true := by simp [h]
  go_enter Tryz.func173, Tryz.ntmps173
  go_wp2_with fail
  go_quiet (fail)
  go_wp2
  go_ret
  exact ⟨by rw [H.out]; rfl, below_drewN (Below.refl _ _) _⟩
 ·subst h
  by_cases h2 : a1 < c1
  ·have H : Hid (ov (a1, c2) (c1, c2) = true) := hide (by simp [ov, h2])
   have d1 : decide (c2 < c2) = false := by simp
   have d2 : (c2 == c2) = true := by simp
   have d3 : decide (a1 < c1) = true := by simp [h2]
   go_enter Tryz.func173, Tryz.ntmps173
   go_wp2_with fail
   go_quiet (fail)
   go_wp2
   go_ret
   exact ⟨by rw [H.out]; rfl, below_drewN (Below.refl _ _) _⟩
  ·have H : Hid (ov (a1, c2) (c1, c2) = false) := hide (by simp [ov]; omega)
   have d1 : decide (c2 < c2) = false := by simp
   have d2 : (c2 == c2) = true := by simp
   have d3 : decide (a1 < c1) = false := by simp; omega
   go_enter Tryz.func173, Tryz.ntmps173
   go_wp2_with fail
   go_quiet (fail)
   go_wp2
   go_ret
   exact ⟨by rw [H.out]; rfl, below_drewN (Below.refl _ _) _⟩
 ·have H : Hid (ov (a1, a2) (c1, c2) = false) := hide (by simp [ov]; omega)
  have d1 : decide (c2 < a2) = false := by simp; omega
  have d2 : (a2 == c2) = false := by simp; omega
  go_enter Tryz.func173, Tryz.ntmps173
  go_wp2_with fail
  go_quiet (fail)
  go_wp2
  go_ret
  exact ⟨by rw [H.out]; rfl, below_drewN (Below.refl _ _) _⟩
def UzPost (nt : TypeId) (t : MT IP × MT IP) (F : List Nat) (w : World) (e : Ending) (w' : World) : Prop :=
 ∃ pa pb Fa Fb, e = .returned (.tuple #[.pointer pa, .pointer pb]) /\ MR w' nt ePair t.1 pa Fa /\ MR w' nt ePair t.2 pb Fb /\ (∀ x ∈ Fa, x ∈ F) /\ (∀ x ∈ Fb, x ∈ F) /\ (∀ x ∈ Fa, x ∉ Fb) /\ Kf (fun i => i ∈ F) w w'
theorem unzipped_any : ∀ (t : MT IP) (p : Option Addr) (F : List Nat) (k : Int) (w : World), MR w 245 ePair t p F -> Calls Tryz.prog 174 #[.pointer p, .int .i64 k] w (UzPost 245 (unz t k) F w)
 | .nil, p, F, k, w, hm => by
  obtain ⟨rfl, rfl⟩ := hm
  go_enter Tryz.func174, Tryz.ntmps174
  go_wp2
  exact bodyPost_ret (v := .tuple #[.pointer none, .pointer none]) (by simp [results, Tryz.results174, go_sem]) rfl ⟨none, none, [], [], rfl, MR.nil, MR.nil, by simp, by simp, by simp, Kf.refl _ _⟩
 | .node a l r, p, F, k, w, hm => by
  obtain ⟨b, pl, pr, Fl, Fr, rfl, rfl, hb, g1, g2, g3, hl, hr⟩ := hm
  have x0 : w.cell? ⟨b, 0, none⟩ = some (.int .i64 a.1) := hb.cell 0
  have cl : w.cell? ⟨b, 2, none⟩ = some (.pointer pl) := hb.link true
  have cr : w.cell? ⟨b, 3, none⟩ = some (.pointer pr) := hb.link false
  have HB := hide hb
  have HL := hide hl
  have HR := hide hr
  have G1 := hide g1
  have G2 := hide g2
  have G3 := hide g3
  by_cases h1 : a.1 < k
  ·have IH := hide (unzipped_any r pr Fr k w hr)
   have HF : Hid (unz (.node a l r) k = (.node a l (unz r k).1, (unz r k).2)) := hide (by rw [unz, if_pos h1])
   have d1 : decide (a.1 < k) = true := by simp [h1]
   clear hb hl hr g1 g2 g3 h1
   go_enter Tryz.func174, Tryz.ntmps174
   go_wp2_with fail
   with_reducible refine IH.out.mono ?_
   rintro e w1 ⟨pa, pb, Fa, Fb, rfl, ha, hb1, s1, s2, s3, hk⟩
   have HA := hide ha
   have HB1 := hide hb1
   have HK := hide hk
   have f0 : w1.frozen? ⟨b, 3, none⟩ = false := (HB.out.kf hk G2.out).frozen 3
   have c3 : w1.cell? ⟨b, 3, none⟩ = some (.pointer pr) := hk.cell (p := ⟨b, 3, none⟩) G2.out cr
   clear ha hb1 hk
   go_wp2
   have hba : b ∉ Fa := fun h => G2.out (s1 b h)
   have hbb : b ∉ Fb := fun h => G2.out (s2 b h)
   refine bodyPost_ret (v := .tuple #[.pointer (some ⟨b, 0, none⟩), .pointer pb]) (by simp [results, Tryz.results174, go_sem]) rfl ⟨_, pb, b :: (Fl ++ Fa), Fb, rfl, ?_, (by rw [HF.out]; exact HB1.out.set hbb), ?_, ?_, ?_, ?_⟩
   ·rw [HF.out]
    refine MR.mk ?_ G1.out hba (fun x hx hx' => G3.out x hx (s1 x hx')) ((HL.out.kf HK.out (fun i hi h => G3.out i hi h)).set G1.out) (HA.out.set hba)
    exact (HB.out.kf HK.out G2.out).set (j := 3)
   ·intro x hx
    simp only [List.mem_cons, List.mem_append] at hx ⊢
    rcases hx with h | h | h
    ·exact .inl h
    ·exact .inr (.inl h)
    ·exact .inr (.inr (s1 x h))
   ·intro x hx
    simp only [List.mem_cons, List.mem_append]
    exact .inr (.inr (s2 x hx))
   ·intro x hx hx'
    simp only [List.mem_cons, List.mem_append] at hx
    rcases hx with h | h | h
    ·subst h; exact hbb hx'
    ·exact G3.out x h (s2 x hx')
    ·exact s3 x h hx'
   ·exact (HK.out.mono (G := fun i => i ∈ b :: (Fl ++ Fr)) (fun i _ h => by simp only [List.mem_cons, List.mem_append]; exact .inr (.inr h))).set (.inl (by simp))
  ·have IH := hide (unzipped_any l pl Fl k w hl)
   have HF : Hid (unz (.node a l r) k = ((unz l k).1, .node a (unz l k).2 r)) := hide (by rw [unz, if_neg h1])
   have d1 : decide (a.1 < k) = false := by simp; omega
   clear hb hl hr g1 g2 g3 h1
   go_enter Tryz.func174, Tryz.ntmps174
   go_wp2_with fail
   with_reducible refine IH.out.mono ?_
   rintro e w1 ⟨pa, pb, Fa, Fb, rfl, ha, hb1, s1, s2, s3, hk⟩
   have HA := hide ha
   have HB1 := hide hb1
   have HK := hide hk
   have f0 : w1.frozen? ⟨b, 2, none⟩ = false := (HB.out.kf hk G1.out).frozen 2
   have c3 : w1.cell? ⟨b, 2, none⟩ = some (.pointer pl) := hk.cell (p := ⟨b, 2, none⟩) G1.out cl
   clear ha hb1 hk
   go_wp2
   have hba : b ∉ Fa := fun h => G1.out (s1 b h)
   have hbb : b ∉ Fb := fun h => G1.out (s2 b h)
   refine bodyPost_ret (v := .tuple #[.pointer pa, .pointer (some ⟨b, 0, none⟩)]) (by simp [results, Tryz.results174, go_sem]) rfl ⟨pa, _, Fa, b :: (Fb ++ Fr), rfl, (by rw [HF.out]; exact HA.out.set hba), ?_, ?_, ?_, ?_, ?_⟩
   ·rw [HF.out]
    refine MR.mk ?_ hbb G2.out (fun x hx hx' => G3.out x (s2 x hx) hx') (HB1.out.set hbb) ((HR.out.kf HK.out (fun i hi h => G3.out i h hi)).set G2.out)
    exact (HB.out.kf HK.out G1.out).set (j := 2)
   ·intro x hx
    simp only [List.mem_cons, List.mem_append]
    exact .inr (.inl (s1 x hx))
   ·intro x hx
    simp only [List.mem_cons, List.mem_append] at hx ⊢
    rcases hx with h | h | h
    ·exact .inl h
    ·exact .inr (.inl (s2 x h))
    ·exact .inr (.inr h)
   ·intro x hx hx'
    simp only [List.mem_cons, List.mem_append] at hx'
    rcases hx' with h | h | h
    ·subst h; exact hba hx
    ·exact s3 x hx h
    ·exact G3.out x (s1 x hx) h
   ·exact (HK.out.mono (G := fun i => i ∈ b :: (Fl ++ Fr)) (fun i _ h => by simp only [List.mem_cons, List.mem_append]; exact .inr (.inl h))).set (.inl (by simp))
def ZpPost (nt : TypeId) (t : MT IP) (F : Nat -> Prop) (w : World) (e : Ending) (w' : World) : Prop :=
 ∃ p F', e = .returned (.pointer p) /\ MR w' nt ePair t p F' /\ (∀ x ∈ F', F x) /\ Kf F w w'
theorem zipped_any : ∀ (n : Nat) (t u : MT IP) (p q : Option Addr) (F G : List Nat) (w : World), t.size + u.size <= n -> MR w 245 ePair t p F -> MR w 245 ePair u q G -> (∀ x ∈ F, x ∉ G) ->
  Calls Tryz.prog 175 #[.pointer p, .pointer q] w (ZpPost 245 (zipM t u) (fun i => i ∈ F ∨ i ∈ G) w)
 | n, .nil, u, p, q, F, G, w, hn, hm, hu, hd => by
  obtain ⟨rfl, rfl⟩ := hm
  have HU := hide hu
  clear hu
  go_enter Tryz.func175, Tryz.ntmps175
  go_wp2
  exact bodyPost_ret (v := .pointer q) (by simp [results, Tryz.results175, go_sem]) rfl ⟨q, G, rfl, by rw [zipM]; exact HU.out, fun x hx => .inr hx, Kf.refl _ _⟩
 | n, .node a l r, .nil, p, q, F, G, w, hn, hm, hu, hd => by
  obtain ⟨rfl, rfl⟩ := hu
  have HM := hide hm
  obtain ⟨b, pl, pr, Fl, Fr, rfl, _⟩ := id hm
  clear hm
  go_enter Tryz.func175, Tryz.ntmps175
  go_wp2
  exact bodyPost_ret (v := .pointer (some ⟨b, 0, none⟩)) (by simp [results, Tryz.results175, go_sem]) rfl ⟨_, F, rfl, by rw [zipM_nil]; exact HM.out, fun x hx => .inl hx, Kf.refl _ _⟩
 | 0, .node a l r, .node c x y, p, q, F, G, w, hn, hm, hu, hd => by simp [MT.size] at hn
 | n + 1, .node a l r, .node c x y, p, q, F, G, w, hn, hm, hu, hd => by
  have HM := hide hm
  have HU := hide hu
  obtain ⟨b, pl, pr, Fl, Fr, rfl, rfl, hb, g1, g2, g3, hl, hr⟩ := hm
  obtain ⟨b2, px, py, Fx, Fy, rfl, rfl, hb2, k1, k2, k3, hx, hy⟩ := hu
  simp only [MT.size] at hn
  have x0 : w.cell? ⟨b, 0, none⟩ = some (.int .i64 a.1) := hb.cell 0
  have x1 : w.cell? ⟨b, 1, none⟩ = some (.int .i64 a.2) := hb.cell 1
  have y0 : w.cell? ⟨b2, 0, none⟩ = some (.int .i64 c.1) := hb2.cell 0
  have y1 : w.cell? ⟨b2, 1, none⟩ = some (.int .i64 c.2) := hb2.cell 1
  have HOV := hide (over_any b b2 a c w x0 x1 y0 y1)
  have cr : w.cell? ⟨b, 3, none⟩ = some (.pointer pr) := hb.link false
  have cx : w.cell? ⟨b2, 2, none⟩ = some (.pointer px) := hb2.link true
  have HB := hide hb
  have HB2 := hide hb2
  have HL := hide hl
  have HY := hide hy
  have hbG : b ∉ b2 :: (Fx ++ Fy) := hd b (by simp)
  have hb2F : b2 ∉ b :: (Fl ++ Fr) := fun h => hd b2 h (by simp)
  have hz := zipM_node a c l r x y
  cases hov : ov a c with
  | true =>
   rw [hov, if_pos rfl] at hz
   have HZ := hide hz
   rw [hov] at HOV
   have IH := hide (fun w1 h1 h2 => zipped_any n r (.node c x y) pr (some ⟨b2, 0, none⟩) Fr (b2 :: (Fx ++ Fy)) w1 (by simp only [MT.size]; omega) h1 h2 (fun i hi => hd i (by simp [hi])))
   have HR := hide hr
   have G1 := hide g1
   have G2 := hide g2
   have G3 := hide g3
   have HD := hide hd
   have HBG := hide hbG
   clear hb hb2 hl hr hx hy g1 g2 g3 k1 k2 k3 hd hz hov x0 x1 y0 y1 hbG hb2F cx
   go_enter Tryz.func175, Tryz.ntmps175
   go_wp2_with fail
   with_reducible refine HOV.out.mono ?_
   rintro e w1 ⟨rfl, hb1⟩
   have kk1 : Kp w w1 := Kp.of hb1
   have cr1 := kk1.cell cr
   clear hb1
   go_wp2_with fail
   with_reducible refine (IH.out _ (HR.out.kp kk1) (HU.out.kp kk1)).mono ?_
   rintro e w2 ⟨p2, F2, rfl, hm2, hF2, hk2⟩
   have hn2 : ¬ (b ∈ Fr ∨ b ∈ b2 :: (Fx ++ Fy)) := fun h => h.elim G2.out HBG.out
   have hb2' := (HB.out.kp kk1).kf hk2 hn2
   have HBB := hide hb2'
   have f0 : w2.frozen? ⟨b, 3, none⟩ = false := hb2'.frozen 3
   have c3 : w2.cell? ⟨b, 3, none⟩ = some (.pointer pr) := hb2'.link false
   have HM2 := hide hm2
   have HK2 := hide hk2
   have hbF2 : b ∉ F2 := fun h => hn2 (hF2 b h)
   have HHF := hide hF2
   have HBF := hide hbF2
   clear hb2' hm2 hk2 hbF2 hF2 hn2
   go_wp2
   refine bodyPost_ret (v := .pointer (some ⟨b, 0, none⟩)) (by simp [results, Tryz.results175, go_sem]) rfl ⟨_, b :: (Fl ++ F2), rfl, ?_, ?_, ?_⟩
   ·rw [HZ.out]
    refine MR.mk ?_ G1.out HBF.out (fun i hi hi' => ?_) (((HL.out.kp kk1).kf HK2.out (fun i hi h => ?_)).set G1.out) (HM2.out.set HBF.out)
    ·exact HBB.out.set (j := 3)
    ·rcases HHF.out i hi' with h | h
     ·exact G3.out i hi h
     ·exact HD.out i (by simp [hi]) h
    ·rcases h with h | h
     ·exact G3.out i hi h
     ·exact HD.out i (by simp [hi]) h
   ·intro i hi
    simp only [List.mem_cons, List.mem_append] at hi ⊢
    rcases hi with h | h | h
    ·exact .inl (.inl h)
    ·exact .inl (.inr (.inl h))
    ·rcases HHF.out i h with h | h
     ·exact .inl (.inr (.inr h))
     ·simp only [List.mem_cons, List.mem_append] at h; exact .inr h
   ·have h9 : Kf (fun i => i ∈ b :: (Fl ++ Fr) ∨ i ∈ b2 :: (Fx ++ Fy)) w w2 := (Kf.of kk1).trans HK2.out (fun i _ h => by
     rcases h with h | h
     ·exact .inl (by simp [h])
     ·exact .inr h)
    exact h9.set (.inl (.inl (by simp)))
  | false =>
   rw [hov, if_neg (by simp)] at hz
   have HZ := hide hz
   rw [hov] at HOV
   have IH := hide (fun w1 h1 h2 => zipped_any n (.node a l r) x (some ⟨b, 0, none⟩) px (b :: (Fl ++ Fr)) Fx w1 (by simp only [MT.size]; omega) h1 h2 (fun i hi hi' => hd i hi (by simp [hi'])))
   have HX := hide hx
   have G1 := hide k1
   have G2 := hide k2
   have G3 := hide k3
   have HD := hide hd
   have HBG := hide hb2F
   clear hb hb2 hl hr hx hy g1 g2 g3 k1 k2 k3 hd hz hov x0 x1 y0 y1 hbG hb2F cr
   go_enter Tryz.func175, Tryz.ntmps175
   go_wp2_with fail
   with_reducible refine HOV.out.mono ?_
   rintro e w1 ⟨rfl, hb1⟩
   have kk1 : Kp w w1 := Kp.of hb1
   have cx1 := kk1.cell cx
   clear hb1
   go_wp2_with fail
   with_reducible refine (IH.out _ (HM.out.kp kk1) (HX.out.kp kk1)).mono ?_
   rintro e w2 ⟨p2, F2, rfl, hm2, hF2, hk2⟩
   have hn2 : ¬ (b2 ∈ b :: (Fl ++ Fr) ∨ b2 ∈ Fx) := fun h => h.elim HBG.out G1.out
   have hb2' := (HB2.out.kp kk1).kf hk2 hn2
   have HBB := hide hb2'
   have f0 : w2.frozen? ⟨b2, 2, none⟩ = false := hb2'.frozen 2
   have c3 : w2.cell? ⟨b2, 2, none⟩ = some (.pointer px) := hb2'.link true
   have HM2 := hide hm2
   have HK2 := hide hk2
   have hbF2 : b2 ∉ F2 := fun h => hn2 (hF2 b2 h)
   have HHF := hide hF2
   have HBF := hide hbF2
   clear hb2' hm2 hk2 hbF2 hF2 hn2
   go_wp2
   refine bodyPost_ret (v := .pointer (some ⟨b2, 0, none⟩)) (by simp [results, Tryz.results175, go_sem]) rfl ⟨_, b2 :: (F2 ++ Fy), rfl, ?_, ?_, ?_⟩
   ·rw [HZ.out]
    refine MR.mk ?_ HBF.out G2.out (fun i hi hi' => ?_) (HM2.out.set HBF.out) (((HY.out.kp kk1).kf HK2.out (fun i hi h => ?_)).set G2.out)
    ·exact HBB.out.set (j := 2)
    ·rcases HHF.out i hi with h | h
     ·exact HD.out i h (by simp [hi'])
     ·exact G3.out i h hi'
    ·rcases h with h | h
     ·exact HD.out i h (by simp [hi])
     ·exact G3.out i h hi
   ·intro i hi
    simp only [List.mem_cons, List.mem_append] at hi ⊢
    rcases hi with h | h | h
    ·exact .inr (.inl h)
    ·rcases HHF.out i h with h | h
     ·simp only [List.mem_cons, List.mem_append] at h; exact .inl h
     ·exact .inr (.inr (.inl h))
    ·exact .inr (.inr (.inr h))
   ·have h9 : Kf (fun i => i ∈ b :: (Fl ++ Fr) ∨ i ∈ b2 :: (Fx ++ Fy)) w w2 := (Kf.of kk1).trans HK2.out (fun i _ h => by
     rcases h with h | h
     ·exact .inl h
     ·exact .inr (by simp [h]))
    exact h9.set (.inl (.inr (by simp)))
 termination_by n => n
def zk (k : Int) : IP := (k, hgtF k)
end Go.Proofs.YtcljlnagpjilaaaGreatDoor
