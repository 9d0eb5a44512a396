/-
  shape.read, shape.Parents: what they answer
  Plain laws: what shape.parents makes of the spots of a tree of places
  shape.Check, shape.Order (but for way 3), shape.Sum: what they answer
  Plain laws: what is told node first makes the tree again, and each list that makes a tree 
  Plain laws: keys, places, spots of a tree that is written (MT)
  vine.read: what it answers
  zip.over, unzipped, zipped: what they answer
  zip.read: what it answers
  zip.cut, put: what they answer
  zip.put: what it answers
  zip.told, Run, Split, Merge: what they answer
  Rows that lie apart: what an append to one leaves of another
  The lesser and the other keys of a list, and a loop that parts them
  grow.sorted, grow.Sort: what they answer
  Plain laws
-/
import Derived.Test.YtcljlnagpjilaaaGreatDoorG16
import Derived.Test.YtcljlnagpjilaaaGreatDoorG7
import Derived.BigQuiet
import Derived.Test.YtcljlnagpjilaaaGreatDoorG1
import Derived.Test.YtcljlnagpjilaaaGreatDoorG9
import Derived.Test.YtcljlnagpjilaaaGreatDoorG3

set_option linter.unusedVariables false
set_option linter.unusedSimpArgs false
set_option maxRecDepth 100000
set_option maxHeartbeats 8000000
namespace Go.Proofs.YtcljlnagpjilaaaGreatDoor
open Go.ChangeShapes Go.WideShapes Go.ChangeAt Go.RowKit
def parOf (l : List IP) : List Int × Int := if mapRight l ≠ 0 then ([], mapRight l) else match ptR l 0 l.length 0 with | some t => (t.pars (-1), 0) | none => ([], 3)
theorem btw_t {n lo hi : Int} (h : lo <= n) (h2 : n <= hi) : btw n lo hi = true := (btw_iff _ _ _).2 ⟨h, h2⟩
theorem btw_f {n lo hi : Int} (h : n < lo ∨ hi < n) : btw n lo hi = false := (btw_f_iff _ _ _).2 (by omega)
theorem read_any (l : List IP) (v : Value) (w : World) (hr : RD w ePair v l) : Calls Tryz.prog 127 #[v] w (Ret2 eInt (parOf l) w) := by
 obtain ⟨A, c, rfl, hc, hm⟩ := hr.shape
 by_cases hlen : l.length > 200
 ·have hmr : mapRight l = 2 := by rw [mapRight, if_pos hlen]
  have H1 : Hid (parOf l = ([], 2)) := hide (by rw [parOf, hmr, if_pos (by decide)])
  clear hmr
  go_enter Tryz.func127, Tryz.ntmps127
  go_wp2
  go_ret2
  exact ⟨_, by rw [H1.out]; rfl, by rw [H1.out]; exact RD.nil, Below.refl _ _⟩
 ·have hres : Hid (mapRight l = mrFrom (-1) l) := hide (by simp [mapRight, hlen])
  have h3f : Hid (mrFrom (-1) l = 3 -> parOf l = ([], 3)) := hide (fun h => by rw [parOf, hres.out, h, if_pos (by decide)])
  obtain ⟨C, hC, hmk⟩ := run_mk row_int 0 zero_int l.length (by omega) (by simp [maxLen]; omega)
  have HR := hide hr
  clear hr
  go_enter Tryz.func127, Tryz.ntmps127
  go_wp2
  go_loopw [12] (CRel l w) (fun i wr => l.length - (intOf i).toNat)
  case atStart => exact ⟨0, -1, by omega, rfl, by omega, by omega, fun _ => rfl, fun _ h => by omega, rfl, Below.refl _ _⟩
  case round =>
   obtain ⟨k, last, hk, rfl, h1, h2, h3, h4, hmr, hbel⟩ := hrel
   have hmr' := hide hmr
   clear hmr
   have hz := hbel.size
   by_cases hlt : k < l.length
   ·obtain ⟨b, o, rfl, hb, c0, c1⟩ := (HR.out.below hbel).pair hlt
    have hd := mrFrom_drop l k hlt last
    have hkp : Kp w wr := hbel
    by_cases hlo : l[k].1 < 0
    ·rw [btw_f (.inl (by omega)), if_neg (by simp)] at hd
     have HP := hide (h3f.out (by rw [<- hmr'.out, hd]))
     clear hd h3 h4
     go_wp2_with fail
     go_quiet (fail)
     go_wp2
     go_ret2
     exact ⟨_, by rw [HP.out]; rfl, by rw [HP.out]; exact RD.nil, Kp.bel (by (exact Kp.auto))⟩
    ·by_cases hhi : 1000000 < l[k].1
     ·rw [btw_f (.inr hhi), if_neg (by simp)] at hd
      have HP := hide (h3f.out (by rw [<- hmr'.out, hd]))
      have hg3 : decide (l[k].1 < 0) = false := by simp; omega
      clear hd h3 h4 hlo
      go_wp2_with fail
      go_quiet (fail)
      go_wp2
      go_ret2
      exact ⟨_, by rw [HP.out]; rfl, by rw [HP.out]; exact RD.nil, Kp.bel (by (exact Kp.auto))⟩
     ·by_cases hk0 : k = 0
      ·have hl : last = -1 := h3 hk0
       rw [btw_t (by omega) (by omega), if_pos rfl] at hd
       have HD := hide hd
       have hg : decide (0 < k) = false := by simp; omega
       have hg2 : decide (1000000 < l[k].1) = false := by simp; omega
       have hg3 : decide (l[k].1 < 0) = false := by simp; omega
       have HL := hide hl
       have HK0 := hide hk0
       have HN : Hid (0 <= l[k].1) := hide (by omega)
       have HN2 : Hid (l[k].1 <= 1000000) := hide (by omega)
       clear hd h3 h4 hl hk0 hlo hhi
       go_wp2_with fail
       go_quiet (fail)
       go_wp2
       go_roundw
       case rel => exact ⟨k+1, l[k].1, by omega, by go_num, by have := HN.out; omega, HN2.out, fun h => by omega, fun _ _ => ⟨rfl, HN.out⟩, by rw [<- HD.out, hmr'.out], Kp.bel (by (exact Kp.auto))⟩
       case measure => simp [intOf]; omega
      ·have hkm : k - 1 < l.length := by omega
       obtain ⟨hl, hl0⟩ := h4 hkm (by omega)
       obtain ⟨b2, o2, e2, _, c2, _⟩ := (HR.out.below hbel).pair (k := k - 1) hkm
       injection e2 with e2
       injection e2 with e3 e4
       subst e3 e4
       have hg : decide (0 < k) = true := by simp; omega
       have hw1 : IntKind.i64.wrap ((k : Int) - 1) = (k : Int) - 1 := IntWalk.i64_in _ (by omega)
       have hw2 : (0 : Int) <= (k : Int) - 1 := by omega
       have hw3 : (k : Int) - 1 < (l.length : Int) := by omega
       have hw4 : ((k : Int) - 1).toNat = k - 1 := by omega
       have hg2 : decide (1000000 < l[k].1) = false := by simp; omega
       have hg3 : decide (l[k].1 < 0) = false := by simp; omega
       by_cases hge : l[k].1 <= l[k-1].1
       ·rw [btw_f (.inl (by omega)), if_neg (by simp)] at hd
        have HP := hide (h3f.out (by rw [<- hmr'.out, hd]))
        clear hd h3 h4 hl hk0 hlo hhi
        go_wp2_with fail
        go_quiet (fail)
        go_wp2
        go_ret2
        exact ⟨_, by rw [HP.out]; rfl, by rw [HP.out]; exact RD.nil, Kp.bel (by (exact Kp.auto))⟩
       ·rw [btw_t (by omega) (by omega), if_pos rfl] at hd
        have HD := hide hd
        have HL := hide hl
        have HN : Hid (0 <= l[k].1) := hide (by omega)
        have HN2 : Hid (l[k].1 <= 1000000) := hide (by omega)
        clear hd h3 h4 hl hk0 hlo hhi
        go_wp2_with fail
        go_quiet (fail)
        go_wp2
        go_roundw
        case rel => exact ⟨k+1, l[k].1, by omega, by go_num, by have := HN.out; omega, HN2.out, fun h => by omega, fun _ _ => ⟨rfl, HN.out⟩, by rw [<- HD.out, hmr'.out], Kp.bel (by (exact Kp.auto))⟩
        case measure => simp [intOf]; omega
   ·have hmr0 : mrFrom (-1) l = 0 := by rw [<- hmr'.out, mrFrom_end _ _ hlt]
    have hpo : parOf l = match ptR l 0 l.length 0 with | some t => (t.pars (-1), 0) | none => ([], 3) := by rw [parOf, hres.out, hmr0]; simp
    have hkp : Kp w wr := hbel
    have hkl : k = l.length := by omega
    have HKL := hide hkl
    have HPO := hide hpo
    clear hmr0 hpo hmr' h3 h4 hkl
    have HRL : Hid ((List.replicate l.length (0 : Int)).length = l.length) := hide (by simp)
    have HCP := hide (fun r (hres : (ptR l 0 l.length 0).isSome = r) (h : AR (wr.alloc (.cells C 3)) wr.heap.size 3 eInt (List.replicate l.length (0 : Int))) (hx : 0 < l.length -> (Value.slice A l.length c).ownBlock ≠ some wr.heap.size) =>
     parents_any l (.slice A l.length c) wr.heap.size (by omega) hx 1000 0 l.length (-1) 0 (List.replicate l.length 0) r (wr.alloc (.cells C 3)) (by omega) (by omega) (by omega) (by omega) (by omega) ((HR.out.kp hkp).alloc _) h HRL.out hres)
    rw [HRL.out] at HCP
    simp only [Int.natCast_zero] at HCP
    have hx : Hid (0 < l.length -> (Value.slice A l.length c).ownBlock ≠ some wr.heap.size) := hide (fun h0 => by
     obtain ⟨b, o, e, hb, _⟩ := (HR.out.kp hkp).pair h0
     subst e
     intro e
     injection e with e
     simp at e
     omega)
    cases hpt : ptR l 0 l.length 0 with
    | none =>
     have HP : Hid (parOf l = ([], 3)) := hide (by rw [HPO.out, hpt])
     have HPT := hide hpt
     clear hpt
     go_wp2_with fail
     refine (HCP.out false (by rw [HPT.out]; rfl) (AR.made hC) hx.out).mono ?_
     rintro e w2 ⟨out1, rfl, ha1, hl1, hk1, hs1, ht1⟩
     have HA1 := hide ha1
     clear ha1 hl1 hs1 ht1
     go_wp2
     go_ret2
     exact ⟨_, by rw [HP.out]; rfl, by rw [HP.out]; exact RD.nil, (hk1.kp (Kp.alloc hkp) hkp.size).bel⟩
    | some t =>
     have HP : Hid (parOf l = (t.pars (-1), 0)) := hide (by rw [HPO.out, hpt])
     have hsz := ptR_size l 0 l.length 0 t (by omega) hpt
     have HPT := hide hpt
     clear hpt
     go_wp2_with fail
     refine (HCP.out true (by rw [HPT.out]; rfl) (AR.made hC) hx.out).mono ?_
     rintro e w2 ⟨out1, rfl, ha1, hl1, hk1, hs1, ht1⟩
     have he : out1 = t.pars (-1) := by
      have h9 := PT.pars_len t (-1)
      have h10 := HRL.out
      refine List.ext_getElem? fun j => ?_
      by_cases hj : j < l.length
      ·have := ht1 t HPT.out j (by omega)
       rwa [Nat.zero_add] at this
      ·rw [List.getElem?_eq_none (by omega), List.getElem?_eq_none (by omega)]
     subst he
     have HA1 := hide ha1
     clear ha1 hs1 ht1
     have HL1 : Hid ((t.pars (-1)).length = l.length) := hide (by rw [hl1, HRL.out])
     clear hl1
     go_wp2
     go_ret2
     refine ⟨_, by rw [HP.out]; rfl, ?_, (hk1.kp (Kp.alloc hkp) hkp.size).bel⟩
     rw [HP.out, <- HL1.out]
     exact HA1.out.rd (by rw [HL1.out]; unfold maxLen; omega)
theorem PT.deps_ge : ∀ (t : PT) (d : Int), ∀ e ∈ t.deps d, d <= e
 | .nil, d, e, h => by simp [deps] at h
 | .node p l r, d, e, h => by
  simp only [deps, List.mem_append, List.mem_singleton] at h
  rcases h with (h | rfl) | h
  ·have := deps_ge l (d + 1) e h; omega
  ·omega
  ·have := deps_ge r (d + 1) e h; omega
theorem PT.deps_node (p : Nat) (l r : PT) (d : Int) (j : Nat) : ((PT.node p l r).deps d)[j]? = if j < l.size then (l.deps (d + 1))[j]? else if j = l.size then some d else (r.deps (d + 1))[j - (l.size + 1)]? := by
 have h := PT.deps_len l (d + 1)
 simp only [deps, List.append_assoc]
 rcases Nat.lt_trichotomy j l.size with hj | hj | hj
 ·rw [if_pos hj, List.getElem?_append_left (by omega)]
 ·rw [if_neg (by omega), if_pos hj, List.getElem?_append_right (by omega), h, hj, Nat.sub_self]; rfl
 ·rw [if_neg (by omega), if_neg (by omega), List.getElem?_append_right (by omega), h, show j - l.size = (j - (l.size + 1)) + 1 from by omega]; rfl
theorem topF_stay (l : List IP) (p : Nat) : ∀ n k, (∀ j, k <= j -> j < k + n -> gv l p < gv l j) -> topF l n k p true = (p, true)
 | 0, _, _ => rfl
 | n + 1, k, h => by
  have := h k (by omega) (by omega)
  rw [topF, if_neg (by omega), if_neg (by omega)]
  exact topF_stay l p n (k + 1) fun j a b => h j (by omega) (by omega)
theorem topF_find (l : List IP) (p : Nat) : ∀ n k a al, k <= p -> p < k + n -> gv l p < gv l a -> (∀ j, k <= j -> j < k + n -> j ≠ p -> gv l p < gv l j) -> topF l n k a al = (p, true)
 | 0, k, a, al, h1, h2, _, _ => by omega
 | n + 1, k, a, al, h1, h2, h3, h4 => by
  by_cases hkp : k = p
  ·subst hkp
   rw [topF, if_pos h3]
   exact topF_stay l k n (k + 1) fun j a b => h4 j (by omega) (by omega) (by omega)
  ·have hk := h4 k (by omega) (by omega) hkp
   rw [topF]
   split
   ·exact topF_find l p n (k + 1) k true (by omega) (by omega) hk fun j a b c => h4 j (by omega) (by omega) c
   ·split
    ·exact topF_find l p n (k + 1) a false (by omega) (by omega) h3 fun j a b c => h4 j (by omega) (by omega) c
    ·exact topF_find l p n (k + 1) a al (by omega) (by omega) h3 fun j a b c => h4 j (by omega) (by omega) c
theorem topS_find (l : List IP) (lo hi p : Nat) (h1 : lo <= p) (h2 : p < hi) (h : ∀ j, lo <= j -> j < hi -> j ≠ p -> gv l p < gv l j) : topS l lo hi = (p, true) := by
 unfold topS
 by_cases hp : lo = p
 ·subst hp
  exact topF_stay l lo _ _ fun j a b => h j (by omega) (by omega) (by omega)
 ·exact topF_find l p _ _ _ _ (by omega) (by omega) (h lo (by omega) (by omega) hp) fun j a b c => h j (by omega) (by omega) c
theorem ptR_of (l : List IP) : ∀ (t : PT) (lo hi : Nat) (d : Int), t.At lo -> hi = lo + t.size -> (∀ j, j < t.size -> some (gv l (lo + j)) = (t.deps d)[j]?) -> ptR l lo hi d = some t
 | .nil, lo, hi, d, _, h, _ => ptR_nil l lo hi d (by simp [PT.size] at h; omega)
 | .node p a b, lo, hi, d, ⟨hp, ha, hb⟩, h, hg => by
  simp only [PT.size] at h hg
  have hgp : gv l p = d := by
   have := hg a.size (by omega)
   rw [PT.deps_node, if_neg (by omega), if_pos rfl, <- hp] at this
   exact Option.some.inj this
  have hga : ∀ j, j < a.size -> some (gv l (lo + j)) = (a.deps (d + 1))[j]? := fun j hj => by
   have := hg j (by omega)
   rwa [PT.deps_node, if_pos hj] at this
  have hgb : ∀ j, j < b.size -> some (gv l (p + 1 + j)) = (b.deps (d + 1))[j]? := fun j hj => by
   have := hg (a.size + 1 + j) (by omega)
   rw [PT.deps_node, if_neg (by omega), if_neg (by omega), show a.size + 1 + j - (a.size + 1) = j from by omega, show lo + (a.size + 1 + j) = p + 1 + j from by omega] at this
   exact this
  have ht : topS l lo hi = (p, true) := topS_find l lo hi p (by omega) (by omega) fun j h1 h2 h3 => by
   rw [hgp]
   rcases Nat.lt_or_ge j p with hj | hj
   ·have := hga (j - lo) (by omega)
    rw [show lo + (j - lo) = j from by omega] at this
    have := PT.deps_ge a (d + 1) _ (List.mem_of_getElem? this.symm)
    omega
   ·have := hgb (j - (p + 1)) (by omega)
    rw [show p + 1 + (j - (p + 1)) = j from by omega] at this
    have := PT.deps_ge b (d + 1) _ (List.mem_of_getElem? this.symm)
    omega
  rw [ptR_node l lo hi d (by omega) p ht hgp, ptR_of l a lo p (d + 1) ha hp hga, ptR_of l b (p + 1) hi (d + 1) hb (by omega) hgb]
theorem ptR_to (l : List IP) (lo hi : Nat) (d : Int) (t : PT) (hlh : lo <= hi) (h : ptR l lo hi d = some t) : t.At lo /\ t.size = hi - lo /\ ∀ j, j < t.size -> some (gv l (lo + j)) = (t.deps d)[j]? := by
 by_cases h0 : lo < hi
 ·have ht := topS_in l lo hi h0
  by_cases h1 : (topS l lo hi).2 = true /\ gv l (topS l lo hi).1 = d
  ·rw [ptR_node l lo hi d h0 (topS l lo hi).1 (by rw [<- h1.1]) h1.2] at h
   cases ha : ptR l lo (topS l lo hi).1 (d + 1) with
   | none => rw [ha] at h; simp at h
   | some a =>
    cases hb : ptR l ((topS l lo hi).1 + 1) hi (d + 1) with
    | none => rw [ha, hb] at h; simp at h
    | some b =>
     rw [ha, hb] at h
     simp only [Option.some.injEq] at h
     subst h
     obtain ⟨h2, h3, h4⟩ := ptR_to l lo (topS l lo hi).1 (d + 1) a ht.1 ha
     obtain ⟨h5, h6, h7⟩ := ptR_to l ((topS l lo hi).1 + 1) hi (d + 1) b (by omega) hb
     refine ⟨⟨by omega, h2, h5⟩, by simp only [PT.size]; omega, fun j hj => ?_⟩
     simp only [PT.size] at hj
     rw [PT.deps_node]
     split
     ·exact h4 j (by omega)
     ·split
      ·rw [show lo + j = (topS l lo hi).1 from by omega, h1.2]
      ·have := h7 (j - (a.size + 1)) (by omega)
       rwa [show (topS l lo hi).1 + 1 + (j - (a.size + 1)) = lo + j from by omega] at this
  ·rw [ptR_none l lo hi d h0 h1] at h
   cases h
 ·rw [ptR_nil l lo hi d h0] at h
  injection h with h
  subst h
  exact ⟨trivial, by simp [PT.size]; omega, fun j hj => by simp [PT.size] at hj⟩
termination_by hi - lo
theorem parOf_tree (l : List IP) (t : PT) (hm : mapRight l = 0) (ha : t.At 0) (hs : t.size = l.length) (hd : ∀ j, j < l.length -> some (gv l j) = (t.deps 0)[j]?) : parOf l = (t.pars (-1), 0) := by
 rw [parOf, if_neg (by simp [hm]), ptR_of l t 0 l.length 0 ha (by omega) (fun j hj => by rw [Nat.zero_add]; exact hd j (by omega))]
theorem parOf_len (l : List IP) (h : (parOf l).2 = 0) : l.length <= 200 /\ mapRight l = 0 /\ ∃ t, ptR l 0 l.length 0 = some t /\ parOf l = (t.pars (-1), 0) := by
 unfold parOf at h
 by_cases h0 : mapRight l = 0
 ·rw [if_neg (by simp [h0])] at h
  cases ht : ptR l 0 l.length 0 with
  | none => rw [ht] at h; simp at h
  | some t => exact ⟨mapRight_len l h0, h0, t, rfl, by rw [parOf, if_neg (by simp [h0]), ht]⟩
 ·rw [if_pos h0] at h
  exact absurd h h0
theorem PT.deps_lt : ∀ (t : PT) (d : Int), ∀ e ∈ t.deps d, e < d + t.size
 | .nil, d, e, h => by simp [deps] at h
 | .node p l r, d, e, h => by
  simp only [deps, List.mem_append, List.mem_singleton] at h
  simp only [size]
  rcases h with (h | rfl) | h
  ·have := deps_lt l (d + 1) e h; omega
  ·omega
  ·have := deps_lt r (d + 1) e h; omega
theorem gv_bound (l : List IP) (h : (parOf l).2 = 0) (k : Nat) (hk : k < l.length) : 0 <= l[k].2 /\ l[k].2 < 200 := by
 obtain ⟨h1, h2, t, ht, _⟩ := parOf_len l h
 obtain ⟨h3, h4, h5⟩ := ptR_to l 0 l.length 0 t (by omega) ht
 have h6 := h5 k (by omega)
 rw [Nat.zero_add, gv_eq l k hk] at h6
 have h7 := List.mem_of_getElem? h6.symm
 have := PT.deps_ge t 0 _ h7
 have := PT.deps_lt t 0 _ h7
 omega
theorem shapeCheck_any (l : List IP) (v : Value) (w : World) (hr : RD w ePair v l) : Calls Tryz.prog 75 #[v] w (Ret (.int .i64 (parOf l).2) w) := by
 have HR := hide hr
 have HRD := hide (fun W v h => read_any l v W h)
 obtain ⟨P, hP⟩ : ∃ P, P = parOf l := ⟨_, rfl⟩
 rw [<- hP] at HRD ⊢
 obtain ⟨a, r⟩ := P
 clear hr hP
 go_enter Tryz.func75, Tryz.ntmps75
 go_wp2_with fail
 with_reducible refine (HRD.out _ _ HR.out).mono ?_
 rintro e w1 ⟨v1, rfl, hr1, hb1⟩
 obtain ⟨A1, c1, rfl, _, _⟩ := hr1.shape
 clear hr1
 go_wp2
 go_ret
 exact ⟨rfl, hb1⟩
def ord3 (l : List IP) : List Int := (l.mergeSort (fun a b => decide (a.2 <= b.2))).map Prod.fst
def orderOf (l : List IP) (way : Int) : List Int × Int :=
 if (parOf l).2 ≠ 0 then ([], (parOf l).2) else if way = 1 then (walkF l false 0 l.length, 0) else if way = 2 then (walkF l true 0 l.length, 0) else if way = 3 then (ord3 l, 0) else ([], 1)
theorem order_any (l : List IP) (way : Int) (v : Value) (w : World) (hr : RD w ePair v l) (hw : way ≠ 3) : Calls Tryz.prog 42 #[v, .int .i64 way] w (Ret2 eInt (orderOf l way) w) := by
 obtain ⟨A, c, rfl, hc, hm⟩ := hr.shape
 have HR := hide hr
 have HCK := hide (fun W v h => shapeCheck_any l v W h)
 clear hr
 by_cases h0 : (parOf l).2 = 0
 ·obtain ⟨hlen, _⟩ := parOf_len l h0
  rw [h0] at HCK
  have ho : orderOf l way = if way = 1 then (walkF l false 0 l.length, 0) else if way = 2 then (walkF l true 0 l.length, 0) else if way = 3 then (ord3 l, 0) else ([], 1) := by rw [orderOf, if_neg (by simp [h0])]
  have HC := hide (fun last B W (hr : RD W ePair (.slice A l.length c) l) (hv : 0 < l.length -> Lo B (.slice A l.length c)) ho hb => walk_any l (.slice A l.length c) B B last (by omega) (Nat.le_refl _) hv l.length 0 l.length [] W (by omega) (by omega) (by omega) (by simp; omega) hr ho hb)
  have hd3 : (way == 3) = false := by simp [hw]
  clear h0
  by_cases h1 : way = 1
  ·subst h1
   have H1 : Hid (orderOf l 1 = (walkF l false 0 l.length, 0)) := hide (by rw [ho, if_pos rfl])
   clear ho hw hd3
   go_enter Tryz.func42, Tryz.ntmps42
   go_wp2_with fail
   with_reducible refine (HCK.out _ _ HR.out).mono ?_
   rintro e w1 ⟨rfl, hb1⟩
   have k1 : Kp w w1 := hb1
   have HK1 := hide k1
   have HR1 := hide (HR.out.kp k1)
   have HO := hide (OB.new (B := w1.heap.size) (st := 69) (e := 3) (E := eInt) w1 (Nat.le_refl _))
   clear hb1 k1
   go_wp2_with fail
   refine (HC.out false w1.heap.size _ (HR1.out.alloc _) (fun h0 => HR1.out.lo h0) HO.out (by simp)).mono ?_
   rintro e w2 ⟨rfl, ho2, hk2⟩
   have k2 := hk2.none (HK1.out.alloc) HK1.out.size (by simp [go_sem])
   rw [List.nil_append] at ho2
   obtain ⟨u, hb, hu, hn⟩ := ho2
   have g0 := hb.cell 0
   obtain ⟨A3, N3, c3, rfl⟩ := hu.rd.slice
   have HU := hide hu.rd
   have K2 := hide k2
   clear hk2 hb hu hn k2
   go_wp2
   go_ret2
   exact ⟨_, by rw [H1.out]; rfl, by rw [H1.out]; exact HU.out, K2.out.bel⟩
  ·by_cases h2 : way = 2
   ·subst h2
    have H1 : Hid (orderOf l 2 = (walkF l true 0 l.length, 0)) := hide (by rw [ho]; rfl)
    clear ho hw hd3 h1
    go_enter Tryz.func42, Tryz.ntmps42
    go_wp2_with fail
    with_reducible refine (HCK.out _ _ HR.out).mono ?_
    rintro e w1 ⟨rfl, hb1⟩
    have k1 : Kp w w1 := hb1
    have HK1 := hide k1
    have HR1 := hide (HR.out.kp k1)
    have HO := hide (OB.new (B := w1.heap.size) (st := 69) (e := 3) (E := eInt) w1 (Nat.le_refl _))
    clear hb1 k1
    go_wp2_with fail
    refine (HC.out true w1.heap.size _ (HR1.out.alloc _) (fun h0 => HR1.out.lo h0) HO.out (by simp)).mono ?_
    rintro e w2 ⟨rfl, ho2, hk2⟩
    have k2 := hk2.none (HK1.out.alloc) HK1.out.size (by simp [go_sem])
    rw [List.nil_append] at ho2
    obtain ⟨u, hb, hu, hn⟩ := ho2
    have g0 := hb.cell 0
    obtain ⟨A3, N3, c3, rfl⟩ := hu.rd.slice
    have HU := hide hu.rd
    have K2 := hide k2
    clear hk2 hb hu hn k2
    go_wp2
    go_ret2
    exact ⟨_, by rw [H1.out]; rfl, by rw [H1.out]; exact HU.out, K2.out.bel⟩
   ·have H1 : Hid (orderOf l way = ([], 1)) := hide (by rw [ho, if_neg h1, if_neg h2, if_neg hw])
    have hd1 : (way == 1) = false := by simp [h1]
    have hd2 : (way == 2) = false := by simp [h2]
    clear ho hw h1 h2
    go_enter Tryz.func42, Tryz.ntmps42
    go_wp2_with fail
    with_reducible refine (HCK.out _ _ HR.out).mono ?_
    rintro e w1 ⟨rfl, hb1⟩
    have k1 : Kp w w1 := hb1
    go_wp2
    go_ret2
    exact ⟨_, by rw [H1.out]; rfl, by rw [H1.out]; exact RD.nil, k1.alloc.bel⟩
 ·have H1 : Hid (orderOf l way = ([], (parOf l).2)) := hide (by rw [orderOf, if_pos h0])
  obtain ⟨r, hr⟩ : ∃ r, r = (parOf l).2 := ⟨_, rfl⟩
  rw [<- hr] at HCK H1 h0
  have hne : (r != 0) = true := by simp [h0]
  clear h0 hr
  go_enter Tryz.func42, Tryz.ntmps42
  go_wp2_with fail
  with_reducible refine (HCK.out _ _ HR.out).mono ?_
  rintro e w1 ⟨rfl, hb1⟩
  go_wp2
  go_ret2
  exact ⟨_, by rw [H1.out]; rfl, by rw [H1.out]; exact RD.nil, hb1⟩
def mostL (l : List IP) : Int := l.foldl (fun m p => max m p.2) (-1)
def allL (l : List IP) : Int := (l.map Prod.snd).sum
def sumOf (l : List IP) : Int × Int × Int := if (parOf l).2 ≠ 0 then (0, 0, (parOf l).2) else (mostL l, allL l, 0)
theorem mostL_snoc (l : List IP) (k : Nat) (h : k < l.length) : mostL (l.take (k + 1)) = max (mostL (l.take k)) l[k].2 := by
 rw [List.take_succ_eq_append_getElem h, mostL, List.foldl_append]; rfl
theorem allL_snoc (l : List IP) (k : Nat) (h : k < l.length) : allL (l.take (k + 1)) = allL (l.take k) + l[k].2 := by
 rw [List.take_succ_eq_append_getElem h, allL, List.map_append, List.sum_append]; simp [allL]
def SmRel (l : List IP) (w : World) (mv av iv : Value) (wr : World) : Prop :=
 ∃ k : Nat, k <= l.length /\ iv = .int .i64 k /\ mv = .int .i64 (mostL (l.take k)) /\ av = .int .i64 (allL (l.take k)) /\ 0 <= allL (l.take k) /\ allL (l.take k) <= 200 * (k : Int) /\ Kp w wr
theorem sum_any (l : List IP) (v : Value) (w : World) (hr : RD w ePair v l) : Calls Tryz.prog 45 #[v] w (Ret (.tuple #[.int .i64 (sumOf l).1, .int .i64 (sumOf l).2.1, .int .i64 (sumOf l).2.2]) w) := by
 obtain ⟨A, c, rfl, hc, hm⟩ := hr.shape
 have HR := hide hr
 have HCK := hide (fun W v h => shapeCheck_any l v W h)
 clear hr
 by_cases h0 : (parOf l).2 = 0
 ·obtain ⟨hlen, _⟩ := parOf_len l h0
  rw [h0] at HCK
  have H1 : Hid (sumOf l = (mostL l, allL l, 0)) := hide (by rw [sumOf, if_neg (by simp [h0])])
  have HGB := hide (gv_bound l h0)
  clear h0
  go_enter Tryz.func45, Tryz.ntmps45
  go_wp2_with fail
  with_reducible refine (HCK.out _ _ HR.out).mono ?_
  rintro e w1 ⟨rfl, hb1⟩
  have HK1 := hide (Kp.of hb1)
  clear hb1
  go_wp2
  go_loopw [6, 7, 17] (SmRel l w) (fun _ _ i _ => l.length - (intOf i).toNat)
  case atStart => exact ⟨0, by omega, rfl, rfl, rfl, by simp [allL], by simp [allL], HK1.out⟩
  case round =>
   obtain ⟨k, hk, rfl, rfl, rfl, ha0, ha1, hkp⟩ := hrel
   by_cases hlt : k < l.length
   ·obtain ⟨b, o, rfl, _, c0, c1⟩ := (HR.out.kp hkp).pair hlt
    obtain ⟨g1, g2⟩ := HGB.out k hlt
    have hm1 := mostL_snoc l k hlt
    have hs1 := allL_snoc l k hlt
    obtain ⟨M, hM⟩ : ∃ M, M = mostL (l.take k) := ⟨_, rfl⟩
    obtain ⟨S, hS⟩ : ∃ S, S = allL (l.take k) := ⟨_, rfl⟩
    rw [<- hM] at hm1 ⊢
    rw [<- hS] at hs1 ha0 ha1 ⊢
    have HM := hide hm1
    have HS := hide hs1
    obtain ⟨d, hd⟩ : ∃ d, d = l[k].2 := ⟨_, rfl⟩
    rw [<- hd] at c1 g1 g2 HM HS
    have hwr : IntKind.i64.wrap (S + d) = S + d := IntWalk.i64_in _ (by omega)
    clear hm1 hs1 hM hS hd
    go_wp2_with fail
    go_quiet (fail)
    go_wp2
    go_roundw
    case rel => exact ⟨k + 1, by omega, by go_num, by rw [HM.out]; (try (congr 1; rw [Int.max_def]; split <;> split <;> omega)), by rw [HS.out], by rw [HS.out]; omega, by rw [HS.out]; omega, (by (exact Kp.auto))⟩
    case measure => simp [intOf]; omega
   ·have hS : Hid (l.take k = l) := hide (List.take_of_length_le (by omega))
    go_wp2
    go_ret3
    exact ⟨by rw [H1.out, hS.out]; rfl, hkp.bel⟩
 ·have H1 : Hid (sumOf l = (0, 0, (parOf l).2)) := hide (by rw [sumOf, if_pos h0])
  obtain ⟨r, hr⟩ : ∃ r, r = (parOf l).2 := ⟨_, rfl⟩
  rw [<- hr] at HCK H1 h0
  have hne : (r != 0) = true := by simp [h0]
  clear h0 hr
  go_enter Tryz.func45, Tryz.ntmps45
  go_wp2_with fail
  with_reducible refine (HCK.out _ _ HR.out).mono ?_
  rintro e w1 ⟨rfl, hb1⟩
  go_wp2
  go_ret3
  exact ⟨by rw [H1.out]; rfl, hb1⟩
theorem mapRight_of (l : List IP) (h1 : l.length <= 200) (h2 : l.Pairwise (fun a b => a.1 < b.1)) (h3 : ∀ x ∈ l, 0 <= x.1 /\ x.1 <= 1000000) : mapRight l = 0 := by
 rw [mapRight, if_neg (by omega)]
 have : ∀ (l : List IP) (last : Int), l.Pairwise (fun a b => a.1 < b.1) -> (∀ x ∈ l, last < x.1 /\ x.1 <= 1000000) -> mrFrom last l = 0 := by
  intro l
  induction l with
  | nil => intro _ _ _; rfl
  | cons p t ih =>
   intro last hr hb
   have hp := hb p (by simp)
   rw [List.pairwise_cons] at hr
   rw [mrFrom, if_pos ((btw_iff _ _ _).2 ⟨by omega, hp.2⟩)]
   exact ih p.1 hr.2 fun x hx => ⟨hr.1 x hx, (hb x (by simp [hx])).2⟩
 exact this l (-1) h2 fun x hx => ⟨by have := (h3 x hx).1; omega, (h3 x hx).2⟩
theorem walkF_mem (l : List IP) (last : Bool) (lo hi : Nat) : ∀ x ∈ walkF l last lo hi, ∃ k, lo <= k /\ k < hi /\ x = gk l k := by
 by_cases h : lo < hi
 ·have ht := topS_in l lo hi h
  have h1 := walkF_mem l last lo (topS l lo hi).1
  have h2 := walkF_mem l last ((topS l lo hi).1 + 1) hi
  intro x hx
  have : x = gk l (topS l lo hi).1 ∨ x ∈ walkF l last lo (topS l lo hi).1 ∨ x ∈ walkF l last ((topS l lo hi).1 + 1) hi := by
   cases last
   ·rw [walkF_first l lo hi h] at hx; simpa [or_assoc] using hx
   ·rw [walkF_last l lo hi h] at hx
    simp only [List.mem_append, List.mem_singleton] at hx
    rcases hx with (hx | hx) | hx
    ·exact .inr (.inl hx)
    ·exact .inr (.inr hx)
    ·exact .inl hx
  rcases this with rfl | hx | hx
  ·exact ⟨_, ht.1, ht.2, rfl⟩
  ·obtain ⟨k, a, b, c⟩ := h1 x hx; exact ⟨k, a, by omega, c⟩
  ·obtain ⟨k, a, b, c⟩ := h2 x hx; exact ⟨k, by omega, b, c⟩
 ·rw [walkF_nil l last lo hi h]; simp
termination_by hi - lo
def keysM {α : Type} (kf : α -> Int) : MT α -> List Int
 | .nil => []
 | .node a l r => keysM kf l ++ [kf a] ++ keysM kf r
theorem keysM_len {α : Type} (kf : α -> Int) : ∀ t : MT α, (keysM kf t).length = t.size
 | .nil => rfl
 | .node a l r => by simp [keysM, MT.size, keysM_len kf l, keysM_len kf r]; omega
theorem spotsBy_keys {α : Type} (kf : α -> Int) : ∀ (t : MT α) (d : Int), (t.spotsBy kf d).map Prod.fst = keysM kf t
 | .nil, _ => rfl
 | .node a l r, d => by simp [MT.spotsBy, keysM, spotsBy_keys kf l, spotsBy_keys kf r]
def ptM {α : Type} : MT α -> Nat -> PT
 | .nil, _ => .nil
 | .node _ l r, off => .node (off + l.size) (ptM l off) (ptM r (off + l.size + 1))
theorem ptM_size {α : Type} : ∀ (t : MT α) (off : Nat), (ptM t off).size = t.size
 | .nil, _ => rfl
 | .node a l r, off => by simp [ptM, PT.size, MT.size, ptM_size l, ptM_size r]
theorem ptM_at {α : Type} : ∀ (t : MT α) (off : Nat), (ptM t off).At off
 | .nil, _ => trivial
 | .node a l r, off => ⟨by rw [ptM_size], ptM_at l off, ptM_at r _⟩
theorem ptM_deps {α : Type} (kf : α -> Int) : ∀ (t : MT α) (off : Nat) (d : Int), (ptM t off).deps d = (t.spotsBy kf d).map Prod.snd
 | .nil, _, _ => rfl
 | .node a l r, off, d => by simp [ptM, PT.deps, MT.spotsBy, ptM_deps kf l, ptM_deps kf r]
theorem spotsBy_right {α : Type} (kf : α -> Int) (t : MT α) (h1 : t.size <= 200) (h2 : (keysM kf t).Pairwise (fun a b => a < b)) (h3 : ∀ x ∈ keysM kf t, 0 <= x /\ x <= 1000000) : parOf (t.spotsBy kf 0) = ((ptM t 0).pars (-1), 0) := by
 have hk := spotsBy_keys kf t 0
 have hl := MT.spotsBy_len kf t 0
 have hm : mapRight (t.spotsBy kf 0) = 0 := mapRight_of _ (by omega) (by rw [<- hk] at h2; exact List.pairwise_map.1 h2) (fun x hx => h3 _ (by rw [<- hk]; exact List.mem_map_of_mem hx))
 refine parOf_tree _ (ptM t 0) hm (ptM_at t 0) (by rw [ptM_size, hl]) fun j hj => ?_
 rw [ptM_deps kf, gv_eq _ j hj]
 simp [List.getElem?_eq_getElem hj]
def ov (a c : IP) : Bool := decide (c.2 < a.2) || (a.2 == c.2 && decide (a.1 < c.1))
def unz : MT IP -> Int -> MT IP × MT IP
 | .nil, _ => (.nil, .nil)
 | .node a l r, k => if a.1 < k then (.node a l (unz r k).1, (unz r k).2) else ((unz l k).1, .node a (unz l k).2 r)
def zipM : MT IP -> MT IP -> MT IP
 | .nil, t => t
 | .node a l r, .nil => .node a l r
 | .node a l r, .node c x y => if ov a c then .node a l (zipM r (.node c x y)) else .node c (zipM (.node a l r) x) y
termination_by t u => t.size + u.size
decreasing_by all_goals simp only [MT.size]; omega
theorem zipM_nil (t : MT IP) : zipM t .nil = t := by cases t <;> simp [zipM]
theorem zipM_node (a c : IP) (l r x y : MT IP) : zipM (.node a l r) (.node c x y) = if ov a c then .node a l (zipM r (.node c x y)) else .node c (zipM (.node a l r) x) y := by rw [zipM]
theorem over_any (b1 b2 : Nat) (a c : IP) (w : World) (x0 : w.cell? ⟨b1, 0, none⟩ = some (.int .i64 a.1)) (x1 : w.cell? ⟨b1, 1, none⟩ = some (.int .i64 a.2)) (y0 : w.cell? ⟨b2, 0, none⟩ = some (.int .i64 c.1)) (y1 : w.cell? ⟨b2, 1, none⟩ = some (.int .i64 c.2)) :
  Calls Tryz.prog 173 #[.pointer (some ⟨b1, 0, none⟩), .pointer (some ⟨b2, 0, none⟩)] w (Ret (.bool (ov a c)) w) := by
 obtain ⟨a1, a2⟩ := a
 obtain ⟨c1, c2⟩ := c
 simp only at x0 x1 y0 y1
 rcases Int.lt_trichotomy c2 a2 with h | h | h
 ·have H : Hid (ov (a1, a2) (c1, c2) = true) := hide (by simp [ov, h])
  have d1 : decide (c2 < a2) = true := by simp [h]
  go_enter Tryz.func173, Tryz.ntmps173
  go_wp2_with fail
  go_quiet (fail)
  go_wp2
  go_ret
  exact ⟨by rw [H.out]; rfl, below_drewN (Below.refl _ _) _⟩
 ·subst h
  by_cases h2 : a1 < c1
  ·have H : Hid (ov (a1, c2) (c1, c2) = true) := hide (by simp [ov, h2])
   have d1 : decide (c2 < c2) = false := by simp
   have d2 : (c2 == c2) = true := by simp
   have d3 : decide (a1 < c1) = true := by simp [h2]
   go_enter Tryz.func173, Tryz.ntmps173
   go_wp2_with fail
   go_quiet (fail)
   go_wp2
   go_ret
   exact ⟨by rw [H.out]; rfl, below_drewN (Below.refl _ _) _⟩
  ·have H : Hid (ov (a1, c2) (c1, c2) = false) := hide (by simp [ov]; omega)
   have d1 : decide (c2 < c2) = false := by simp
   have d2 : (c2 == c2) = true := by simp
   have d3 : decide (a1 < c1) = false := by simp; omega
   go_enter Tryz.func173, Tryz.ntmps173
   go_wp2_with fail
   go_quiet (fail)
   go_wp2
   go_ret
   exact ⟨by rw [H.out]; rfl, below_drewN (Below.refl _ _) _⟩
 ·have H : Hid (ov (a1, a2) (c1, c2) = false) := hide (by simp [ov]; omega)
  have d1 : decide (c2 < a2) = false := by simp; omega
  have d2 : (a2 == c2) = false := by simp; omega
  go_enter Tryz.func173, Tryz.ntmps173
  go_wp2_with fail
  go_quiet (fail)
  go_wp2
  go_ret
  exact ⟨by rw [H.out]; rfl, below_drewN (Below.refl _ _) _⟩
def UzPost (nt : TypeId) (t : MT IP × MT IP) (F : List Nat) (w : World) (e : Ending) (w' : World) : Prop :=
 ∃ pa pb Fa Fb, e = .returned (.tuple #[.pointer pa, .pointer pb]) /\ MR w' nt ePair t.1 pa Fa /\ MR w' nt ePair t.2 pb Fb /\ (∀ x ∈ Fa, x ∈ F) /\ (∀ x ∈ Fb, x ∈ F) /\ (∀ x ∈ Fa, x ∉ Fb) /\ Kf (fun i => i ∈ F) w w'
theorem unzipped_any : ∀ (t : MT IP) (p : Option Addr) (F : List Nat) (k : Int) (w : World), MR w 245 ePair t p F -> Calls Tryz.prog 174 #[.pointer p, .int .i64 k] w (UzPost 245 (unz t k) F w)
 | .nil, p, F, k, w, hm => by
  obtain ⟨rfl, rfl⟩ := hm
  go_enter Tryz.func174, Tryz.ntmps174
  go_wp2
  exact bodyPost_ret (v := .tuple #[.pointer none, .pointer none]) (by simp [results, Tryz.results174, go_sem]) rfl ⟨none, none, [], [], rfl, MR.nil, MR.nil, by simp, by simp, by simp, Kf.refl _ _⟩
 | .node a l r, p, F, k, w, hm => by
  obtain ⟨b, pl, pr, Fl, Fr, rfl, rfl, hb, g1, g2, g3, hl, hr⟩ := hm
  have x0 : w.cell? ⟨b, 0, none⟩ = some (.int .i64 a.1) := hb.cell 0
  have cl : w.cell? ⟨b, 2, none⟩ = some (.pointer pl) := hb.link true
  have cr : w.cell? ⟨b, 3, none⟩ = some (.pointer pr) := hb.link false
  have HB := hide hb
  have HL := hide hl
  have HR := hide hr
  have G1 := hide g1
  have G2 := hide g2
  have G3 := hide g3
  by_cases h1 : a.1 < k
  ·have IH := hide (unzipped_any r pr Fr k w hr)
   have HF : Hid (unz (.node a l r) k = (.node a l (unz r k).1, (unz r k).2)) := hide (by rw [unz, if_pos h1])
   have d1 : decide (a.1 < k) = true := by simp [h1]
   clear hb hl hr g1 g2 g3 h1
   go_enter Tryz.func174, Tryz.ntmps174
   go_wp2_with fail
   with_reducible refine IH.out.mono ?_
   rintro e w1 ⟨pa, pb, Fa, Fb, rfl, ha, hb1, s1, s2, s3, hk⟩
   have HA := hide ha
   have HB1 := hide hb1
   have HK := hide hk
   have f0 : w1.frozen? ⟨b, 3, none⟩ = false := (HB.out.kf hk G2.out).frozen 3
   have c3 : w1.cell? ⟨b, 3, none⟩ = some (.pointer pr) := hk.cell (p := ⟨b, 3, none⟩) G2.out cr
   clear ha hb1 hk
   go_wp2
   have hba : b ∉ Fa := fun h => G2.out (s1 b h)
   have hbb : b ∉ Fb := fun h => G2.out (s2 b h)
   refine bodyPost_ret (v := .tuple #[.pointer (some ⟨b, 0, none⟩), .pointer pb]) (by simp [results, Tryz.results174, go_sem]) rfl ⟨_, pb, b :: (Fl ++ Fa), Fb, rfl, ?_, (by rw [HF.out]; exact HB1.out.set hbb), ?_, ?_, ?_, ?_⟩
   ·rw [HF.out]
    refine MR.mk ?_ G1.out hba (fun x hx hx' => G3.out x hx (s1 x hx')) ((HL.out.kf HK.out (fun i hi h => G3.out i hi h)).set G1.out) (HA.out.set hba)
    exact (HB.out.kf HK.out G2.out).set (j := 3)
   ·intro x hx
    simp only [List.mem_cons, List.mem_append] at hx ⊢
    rcases hx with h | h | h
    ·exact .inl h
    ·exact .inr (.inl h)
    ·exact .inr (.inr (s1 x h))
   ·intro x hx
    simp only [List.mem_cons, List.mem_append]
    exact .inr (.inr (s2 x hx))
   ·intro x hx hx'
    simp only [List.mem_cons, List.mem_append] at hx
    rcases hx with h | h | h
    ·subst h; exact hbb hx'
    ·exact G3.out x h (s2 x hx')
    ·exact s3 x h hx'
   ·exact (HK.out.mono (G := fun i => i ∈ b :: (Fl ++ Fr)) (fun i _ h => by simp only [List.mem_cons, List.mem_append]; exact .inr (.inr h))).set (.inl (by simp))
  ·have IH := hide (unzipped_any l pl Fl k w hl)
   have HF : Hid (unz (.node a l r) k = ((unz l k).1, .node a (unz l k).2 r)) := hide (by rw [unz, if_neg h1])
   have d1 : decide (a.1 < k) = false := by simp; omega
   clear hb hl hr g1 g2 g3 h1
   go_enter Tryz.func174, Tryz.ntmps174
   go_wp2_with fail
   with_reducible refine IH.out.mono ?_
   rintro e w1 ⟨pa, pb, Fa, Fb, rfl, ha, hb1, s1, s2, s3, hk⟩
   have HA := hide ha
   have HB1 := hide hb1
   have HK := hide hk
   have f0 : w1.frozen? ⟨b, 2, none⟩ = false := (HB.out.kf hk G1.out).frozen 2
   have c3 : w1.cell? ⟨b, 2, none⟩ = some (.pointer pl) := hk.cell (p := ⟨b, 2, none⟩) G1.out cl
   clear ha hb1 hk
   go_wp2
   have hba : b ∉ Fa := fun h => G1.out (s1 b h)
   have hbb : b ∉ Fb := fun h => G1.out (s2 b h)
   refine bodyPost_ret (v := .tuple #[.pointer pa, .pointer (some ⟨b, 0, none⟩)]) (by simp [results, Tryz.results174, go_sem]) rfl ⟨pa, _, Fa, b :: (Fb ++ Fr), rfl, (by rw [HF.out]; exact HA.out.set hba), ?_, ?_, ?_, ?_, ?_⟩
   ·rw [HF.out]
    refine MR.mk ?_ hbb G2.out (fun x hx hx' => G3.out x (s2 x hx) hx') (HB1.out.set hbb) ((HR.out.kf HK.out (fun i hi h => G3.out i h hi)).set G2.out)
    exact (HB.out.kf HK.out G1.out).set (j := 2)
   ·intro x hx
    simp only [List.mem_cons, List.mem_append]
    exact .inr (.inl (s1 x hx))
   ·intro x hx
    simp only [List.mem_cons, List.mem_append] at hx ⊢
    rcases hx with h | h | h
    ·exact .inl h
    ·exact .inr (.inl (s2 x h))
    ·exact .inr (.inr h)
   ·intro x hx hx'
    simp only [List.mem_cons, List.mem_append] at hx'
    rcases hx' with h | h | h
    ·subst h; exact hba hx
    ·exact s3 x hx h
    ·exact G3.out x (s1 x hx) h
   ·exact (HK.out.mono (G := fun i => i ∈ b :: (Fl ++ Fr)) (fun i _ h => by simp only [List.mem_cons, List.mem_append]; exact .inr (.inl h))).set (.inl (by simp))
def ZpPost (nt : TypeId) (t : MT IP) (F : Nat -> Prop) (w : World) (e : Ending) (w' : World) : Prop :=
 ∃ p F', e = .returned (.pointer p) /\ MR w' nt ePair t p F' /\ (∀ x ∈ F', F x) /\ Kf F w w'
theorem zipped_any : ∀ (n : Nat) (t u : MT IP) (p q : Option Addr) (F G : List Nat) (w : World), t.size + u.size <= n -> MR w 245 ePair t p F -> MR w 245 ePair u q G -> (∀ x ∈ F, x ∉ G) ->
  Calls Tryz.prog 175 #[.pointer p, .pointer q] w (ZpPost 245 (zipM t u) (fun i => i ∈ F ∨ i ∈ G) w)
 | n, .nil, u, p, q, F, G, w, hn, hm, hu, hd => by
  obtain ⟨rfl, rfl⟩ := hm
  have HU := hide hu
  clear hu
  go_enter Tryz.func175, Tryz.ntmps175
  go_wp2
  exact bodyPost_ret (v := .pointer q) (by simp [results, Tryz.results175, go_sem]) rfl ⟨q, G, rfl, by rw [zipM]; exact HU.out, fun x hx => .inr hx, Kf.refl _ _⟩
 | n, .node a l r, .nil, p, q, F, G, w, hn, hm, hu, hd => by
  obtain ⟨rfl, rfl⟩ := hu
  have HM := hide hm
  obtain ⟨b, pl, pr, Fl, Fr, rfl, _⟩ := id hm
  clear hm
  go_enter Tryz.func175, Tryz.ntmps175
  go_wp2
  exact bodyPost_ret (v := .pointer (some ⟨b, 0, none⟩)) (by simp [results, Tryz.results175, go_sem]) rfl ⟨_, F, rfl, by rw [zipM_nil]; exact HM.out, fun x hx => .inl hx, Kf.refl _ _⟩
 | 0, .node a l r, .node c x y, p, q, F, G, w, hn, hm, hu, hd => by simp [MT.size] at hn
 | n + 1, .node a l r, .node c x y, p, q, F, G, w, hn, hm, hu, hd => by
  have HM := hide hm
  have HU := hide hu
  obtain ⟨b, pl, pr, Fl, Fr, rfl, rfl, hb, g1, g2, g3, hl, hr⟩ := hm
  obtain ⟨b2, px, py, Fx, Fy, rfl, rfl, hb2, k1, k2, k3, hx, hy⟩ := hu
  simp only [MT.size] at hn
  have x0 : w.cell? ⟨b, 0, none⟩ = some (.int .i64 a.1) := hb.cell 0
  have x1 : w.cell? ⟨b, 1, none⟩ = some (.int .i64 a.2) := hb.cell 1
  have y0 : w.cell? ⟨b2, 0, none⟩ = some (.int .i64 c.1) := hb2.cell 0
  have y1 : w.cell? ⟨b2, 1, none⟩ = some (.int .i64 c.2) := hb2.cell 1
  have HOV := hide (over_any b b2 a c w x0 x1 y0 y1)
  have cr : w.cell? ⟨b, 3, none⟩ = some (.pointer pr) := hb.link false
  have cx : w.cell? ⟨b2, 2, none⟩ = some (.pointer px) := hb2.link true
  have HB := hide hb
  have HB2 := hide hb2
  have HL := hide hl
  have HY := hide hy
  have hbG : b ∉ b2 :: (Fx ++ Fy) := hd b (by simp)
  have hb2F : b2 ∉ b :: (Fl ++ Fr) := fun h => hd b2 h (by simp)
  have hz := zipM_node a c l r x y
  cases hov : ov a c with
  | true =>
   rw [hov, if_pos rfl] at hz
   have HZ := hide hz
   rw [hov] at HOV
   have IH := hide (fun w1 h1 h2 => zipped_any n r (.node c x y) pr (some ⟨b2, 0, none⟩) Fr (b2 :: (Fx ++ Fy)) w1 (by simp only [MT.size]; omega) h1 h2 (fun i hi => hd i (by simp [hi])))
   have HR := hide hr
   have G1 := hide g1
   have G2 := hide g2
   have G3 := hide g3
   have HD := hide hd
   have HBG := hide hbG
   clear hb hb2 hl hr hx hy g1 g2 g3 k1 k2 k3 hd hz hov x0 x1 y0 y1 hbG hb2F cx
   go_enter Tryz.func175, Tryz.ntmps175
   go_wp2_with fail
   with_reducible refine HOV.out.mono ?_
   rintro e w1 ⟨rfl, hb1⟩
   have kk1 : Kp w w1 := Kp.of hb1
   have cr1 := kk1.cell cr
   clear hb1
   go_wp2_with fail
   with_reducible refine (IH.out _ (HR.out.kp kk1) (HU.out.kp kk1)).mono ?_
   rintro e w2 ⟨p2, F2, rfl, hm2, hF2, hk2⟩
   have hn2 : ¬ (b ∈ Fr ∨ b ∈ b2 :: (Fx ++ Fy)) := fun h => h.elim G2.out HBG.out
   have hb2' := (HB.out.kp kk1).kf hk2 hn2
   have HBB := hide hb2'
   have f0 : w2.frozen? ⟨b, 3, none⟩ = false := hb2'.frozen 3
   have c3 : w2.cell? ⟨b, 3, none⟩ = some (.pointer pr) := hb2'.link false
   have HM2 := hide hm2
   have HK2 := hide hk2
   have hbF2 : b ∉ F2 := fun h => hn2 (hF2 b h)
   have HHF := hide hF2
   have HBF := hide hbF2
   clear hb2' hm2 hk2 hbF2 hF2 hn2
   go_wp2
   refine bodyPost_ret (v := .pointer (some ⟨b, 0, none⟩)) (by simp [results, Tryz.results175, go_sem]) rfl ⟨_, b :: (Fl ++ F2), rfl, ?_, ?_, ?_⟩
   ·rw [HZ.out]
    refine MR.mk ?_ G1.out HBF.out (fun i hi hi' => ?_) (((HL.out.kp kk1).kf HK2.out (fun i hi h => ?_)).set G1.out) (HM2.out.set HBF.out)
    ·exact HBB.out.set (j := 3)
    ·rcases HHF.out i hi' with h | h
     ·exact G3.out i hi h
     ·exact HD.out i (by simp [hi]) h
    ·rcases h with h | h
     ·exact G3.out i hi h
     ·exact HD.out i (by simp [hi]) h
   ·intro i hi
    simp only [List.mem_cons, List.mem_append] at hi ⊢
    rcases hi with h | h | h
    ·exact .inl (.inl h)
    ·exact .inl (.inr (.inl h))
    ·rcases HHF.out i h with h | h
     ·exact .inl (.inr (.inr h))
     ·simp only [List.mem_cons, List.mem_append] at h; exact .inr h
   ·have h9 : Kf (fun i => i ∈ b :: (Fl ++ Fr) ∨ i ∈ b2 :: (Fx ++ Fy)) w w2 := (Kf.of kk1).trans HK2.out (fun i _ h => by
     rcases h with h | h
     ·exact .inl (by simp [h])
     ·exact .inr h)
    exact h9.set (.inl (.inl (by simp)))
  | false =>
   rw [hov, if_neg (by simp)] at hz
   have HZ := hide hz
   rw [hov] at HOV
   have IH := hide (fun w1 h1 h2 => zipped_any n (.node a l r) x (some ⟨b, 0, none⟩) px (b :: (Fl ++ Fr)) Fx w1 (by simp only [MT.size]; omega) h1 h2 (fun i hi hi' => hd i hi (by simp [hi'])))
   have HX := hide hx
   have G1 := hide k1
   have G2 := hide k2
   have G3 := hide k3
   have HD := hide hd
   have HBG := hide hb2F
   clear hb hb2 hl hr hx hy g1 g2 g3 k1 k2 k3 hd hz hov x0 x1 y0 y1 hbG hb2F cr
   go_enter Tryz.func175, Tryz.ntmps175
   go_wp2_with fail
   with_reducible refine HOV.out.mono ?_
   rintro e w1 ⟨rfl, hb1⟩
   have kk1 : Kp w w1 := Kp.of hb1
   have cx1 := kk1.cell cx
   clear hb1
   go_wp2_with fail
   with_reducible refine (IH.out _ (HM.out.kp kk1) (HX.out.kp kk1)).mono ?_
   rintro e w2 ⟨p2, F2, rfl, hm2, hF2, hk2⟩
   have hn2 : ¬ (b2 ∈ b :: (Fl ++ Fr) ∨ b2 ∈ Fx) := fun h => h.elim HBG.out G1.out
   have hb2' := (HB2.out.kp kk1).kf hk2 hn2
   have HBB := hide hb2'
   have f0 : w2.frozen? ⟨b2, 2, none⟩ = false := hb2'.frozen 2
   have c3 : w2.cell? ⟨b2, 2, none⟩ = some (.pointer px) := hb2'.link true
   have HM2 := hide hm2
   have HK2 := hide hk2
   have hbF2 : b2 ∉ F2 := fun h => hn2 (hF2 b2 h)
   have HHF := hide hF2
   have HBF := hide hbF2
   clear hb2' hm2 hk2 hbF2 hF2 hn2
   go_wp2
   refine bodyPost_ret (v := .pointer (some ⟨b2, 0, none⟩)) (by simp [results, Tryz.results175, go_sem]) rfl ⟨_, b2 :: (F2 ++ Fy), rfl, ?_, ?_, ?_⟩
   ·rw [HZ.out]
    refine MR.mk ?_ HBF.out G2.out (fun i hi hi' => ?_) (HM2.out.set HBF.out) (((HY.out.kp kk1).kf HK2.out (fun i hi h => ?_)).set G2.out)
    ·exact HBB.out.set (j := 2)
    ·rcases HHF.out i hi with h | h
     ·exact HD.out i h (by simp [hi'])
     ·exact G3.out i h hi'
    ·rcases h with h | h
     ·exact HD.out i h (by simp [hi])
     ·exact G3.out i h hi
   ·intro i hi
    simp only [List.mem_cons, List.mem_append] at hi ⊢
    rcases hi with h | h | h
    ·exact .inr (.inl h)
    ·rcases HHF.out i h with h | h
     ·simp only [List.mem_cons, List.mem_append] at h; exact .inl h
     ·exact .inr (.inr (.inl h))
    ·exact .inr (.inr (.inr h))
   ·have h9 : Kf (fun i => i ∈ b :: (Fl ++ Fr) ∨ i ∈ b2 :: (Fx ++ Fy)) w w2 := (Kf.of kk1).trans HK2.out (fun i _ h => by
     rcases h with h | h
     ·exact .inl h
     ·exact .inr (by simp [h]))
    exact h9.set (.inl (.inr (by simp)))
 termination_by n => n
def zk (k : Int) : IP := (k, hgtF k)
theorem At_.kpZ {α : Type} {w w' : World} {nt : TypeId} {E : Enc α} {kf : α -> Int} {r0 : Addr} {T : MT α} {F : List Nat} {key : Int} {C : List (Fm α)} {q : Addr} {t : MT α} {p : Option Addr} {Fc Ft : List Nat} (h : At_ w nt E kf r0 T F key C q t p Fc Ft) (hk : Kp w w') (hr : r0.block < w.heap.size) : At_ w' nt E kf r0 T F key C q t p Fc Ft :=
 ⟨h.zp.kp hk hr, hk.cell h.cell, (hk.frozen (World.block_lt_of_cell? _ _ h.cell)).trans h.fz, h.mr.kp hk, h.dis, h.eq, h.dir, h.sub⟩
theorem At_.putG {α : Type} {w w1 : World} {nt : TypeId} {E : Enc α} {kf : α -> Int} {r0 : Addr} {T : MT α} {F : List Nat} {key : Int} {C : List (Fm α)} {q : Addr} {t : MT α} {p : Option Addr} {Fc Ft : List Nat} (h : At_ w nt E kf r0 T F key C q t p Fc Ft)
  (hr : r0.block ∉ F) (hrl : r0.block < w.heap.size) {G : Nat -> Prop} (hk : Kf G w w1) (hG : ∀ i ∈ Fc, ¬ G i) (hGr : ¬ G r0.block) {t' : MT α} {p' : Option Addr} {Ft' : List Nat} (hm : MR w1 nt E t' p' Ft') (hd : ∀ x ∈ Ft', x ∉ Fc) (hq : r0.block ∉ Ft') :
  ∃ p0 F0, (w1.setCell q (.pointer p')).cell? r0 = some (.pointer p0) /\ MR (w1.setCell q (.pointer p')) nt E (plug C t') p0 F0 /\ (∀ x ∈ F0, x ∈ Ft' ∨ x ∈ Fc) /\ Kf (fun i => G i ∨ i = r0.block ∨ i ∈ Fc) w (w1.setCell q (.pointer p')) := by
 have hfc : r0.block ∉ Fc := fun hx => hr (h.sub _ (.inr hx))
 have hqG : ¬ G q.block := by
  rcases h.zp.at_ with e | hx
  ·rw [e]; exact hGr
  ·exact hG _ hx
 have hqF : q.block ∉ Ft' := by
  rcases h.zp.at_ with e | hx
  ·rw [e]; exact hq
  ·exact fun h' => hd _ h' hx
 have hz1 := (h.zp.kf hk hGr hrl hG).store hfc p'
 have hqc : (w1.setCell q (.pointer p')).cell? q = some (.pointer p') := World.cell?_setCell_same' w1 q _ (by rw [hk.cell hqG h.cell]; rfl)
 obtain ⟨p0, F0, g1, g2, g3⟩ := hz1.close hqc (hm.set hqF) hd
 refine ⟨p0, F0, g1, g2, fun x hx => (g3 x).1 hx, (hk.mono fun i _ hi => .inl hi).set (.inl (.inr ?_))⟩
 rcases h.zp.at_ with e | hx
 ·exact .inl (by rw [e])
 ·exact .inr hx
def cutM : MT IP -> Int -> MT IP
 | .nil, _ => .nil
 | .node a l r, k => if k < a.1 then .node a (cutM l k) r else if a.1 < k then .node a l (cutM r k) else zipM l r
theorem cutM_on {f : Fm IP} {k : Int} (h : (f.left = true -> k < f.a.1) /\ (f.left = false -> f.a.1 < k)) (t : MT IP) : cutM (f.on t) k = f.on (cutM t k) := by
 obtain ⟨a, left, o⟩ := f
 cases left with
 | true => simp [Fm.on, cutM, h.1 rfl]
 | false =>
  have := h.2 rfl
  simp only at this
  simp [Fm.on, cutM, this, show ¬ k < a.1 by omega]
theorem cutM_plug {k : Int} : ∀ (C : List (Fm IP)) (t : MT IP), Dir Prod.fst C k -> cutM (plug C t) k = plug C (cutM t k)
 | [], _, _ => rfl
 | f :: C, t, h => by
  have h1 := cutM_plug C (f.on t) (fun x hx => h x (by simp [hx]))
  rw [plug, h1, cutM_on (h f (by simp)), plug]
def putM : MT IP -> IP -> MT IP
 | .nil, p => .node p .nil .nil
 | .node a l r, p => if ov a p then (if p.1 = a.1 then .node a l r else if p.1 < a.1 then .node a (putM l p) r else .node a l (putM r p)) else if a.1 = p.1 then .node a l r else .node p (unz (.node a l r) p.1).1 (unz (.node a l r) p.1).2
theorem putM_on {f : Fm IP} {p : IP} (h : (f.left = true -> p.1 < f.a.1) /\ (f.left = false -> f.a.1 < p.1)) (ho : ov f.a p = true) (t : MT IP) : putM (f.on t) p = f.on (putM t p) := by
 obtain ⟨a, left, o⟩ := f
 simp only at ho h
 cases left with
 | true =>
  have := h.1 rfl
  simp [Fm.on, putM, ho, this, show ¬ p.1 = a.1 by omega]
 | false =>
  have := h.2 rfl
  simp [Fm.on, putM, ho, this, show ¬ p.1 < a.1 by omega, show ¬ p.1 = a.1 by omega]
theorem putM_plug {p : IP} : ∀ (C : List (Fm IP)) (t : MT IP), Dir Prod.fst C p.1 -> (∀ f ∈ C, ov f.a p = true) -> putM (plug C t) p = plug C (putM t p)
 | [], _, _, _ => rfl
 | f :: C, t, h, ho => by
  have h1 := putM_plug C (f.on t) (fun x hx => h x (by simp [hx])) (fun x hx => ho x (by simp [hx]))
  rw [plug, h1, putM_on (h f (by simp)) (ho f (by simp)), plug]
def ZmPost (nt : TypeId) (T' : MT IP) (F : List Nat) (w : World) (e : Ending) (w' : World) : Prop :=
 ∃ p F', e = .returned (.pointer p) /\ MR w' nt ePair T' p F' /\ (∀ x ∈ F', x ∈ F ∨ w.heap.size <= x) /\ Kf (fun i => i ∈ F) w w'
def ZcRel (nt : TypeId) (w : World) (r0 : Addr) (T : MT IP) (F : List Nat) (key : Int) (qv : Value) (wr : World) : Prop :=
 ∃ C q t p Fc Ft, qv = .pointer (some q) /\ At_ wr nt ePair Prod.fst r0 T F key C q t p Fc Ft /\ r0.block < wr.heap.size /\ Kp w wr
theorem zcut_any (T : MT IP) (p0 : Option Addr) (F : List Nat) (key : Int) (w : World) (hm : MR w 245 ePair T p0 F) : Calls Tryz.prog 136 #[.pointer p0, .int .i64 key] w (ZmPost 245 (cutM T key) F w) := by
 have hFl := hm.lt
 have HRF : Hid ((⟨w.heap.size, 0, none⟩ : Addr).block ∉ F) := hide (fun h => by have := hFl _ h; simp at this)
 have HS : Hid (At_ (w.alloc (.cells #[.pointer p0] 194)) 245 ePair Prod.fst ⟨w.heap.size, 0, none⟩ T F key [] ⟨w.heap.size, 0, none⟩ T p0 [] F) := hide (At_.start key (by simp [go_sem]) (by simp [go_sem]) (hm.kp (Kp.refl w).alloc))
 have HFL := hide hFl
 clear hm hFl
 go_enter Tryz.func136, Tryz.ntmps136
 go_wp2
 go_loopw [5] (ZcRel 245 w ⟨w.heap.size, 0, none⟩ T F key) (szAt 245 ePair)
 case atStart => exact ⟨_, _, _, _, _, _, rfl, HS.out, by simp, (Kp.refl w).alloc⟩
 case round =>
  obtain ⟨C, q, t, p, Fc, Ft, rfl, ha, hrl, hkp⟩ := hrel
  have HA := hide ha
  have c0 := ha.cell
  have hm := ha.mr
  have HRL := hide hrl
  have HKP := hide hkp
  clear ha hkp
  cases p with
  | none =>
   obtain ⟨rfl, rfl⟩ := hm.of_none
   obtain ⟨p1, F1, k1, k2, k3⟩ := HA.out.zp.close HA.out.cell hm HA.out.dis
   have HK2 := hide k2
   have HK3 := hide k3
   have hT : Hid (cutM T key = plug C .nil) := hide (by rw [HA.out.eq, cutM_plug C _ HA.out.dir]; rfl)
   clear hm k2 k3
   go_wp2
   exact bodyPost_ret (v := .pointer p1) (by simp [results, Tryz.results136, go_sem]) rfl ⟨p1, F1, rfl, by rw [hT.out]; exact HK2.out, fun x hx => .inl (HA.out.sub x ((HK3.out x).1 hx)), Kf.of HKP.out⟩
  | some ad =>
   obtain ⟨a, l, r, b, pl, pr, Fl, Fr, rfl, rfl, rfl, hb, g1, g2, g3, hl, hr⟩ := hm.of_some
   have ck : wr.cell? ⟨b, 0, none⟩ = some (.int .i64 a.1) := hb.cell 0
   have HMS := hide (szAt_eq c0 hm)
   have HML := hide (szAt_eq (hb.link true) hl)
   have HMR := hide (szAt_eq (hb.link false) hr)
   have HD := hide (HA.out.down hb g1 g2 g3 hl hr)
   have cl : wr.cell? ⟨b, 2, none⟩ = some (.pointer pl) := hb.link true
   have cr : wr.cell? ⟨b, 3, none⟩ = some (.pointer pr) := hb.link false
   have HL := hide hl
   have HR := hide hr
   have G1 := hide g1
   have G2 := hide g2
   have G3 := hide g3
   clear hm hb g1 g2 g3 hl hr
   rcases Int.lt_trichotomy key a.1 with hk | hk | hk
   ·have d1 : (a.1 != key) = true := by rw [bne_iff_ne]; omega
    have HN := hide (HD.out.1 hk)
    clear HMR
    go_wp2
    go_roundw
    case rel => exact ⟨_, _, _, _, _, _, rfl, HN.out, HRL.out, HKP.out⟩
    case measure => exact Nat.lt_of_lt_of_le (Nat.lt_of_le_of_lt (Nat.le_of_eq HML.out) (by simp only [MT.size]; omega)) (Nat.le_of_eq HMS.out.symm)
   ·have d1 : (a.1 != key) = false := by simp [hk]
    have HT : Hid (cutM T key = plug C (zipM l r)) := hide (by rw [HA.out.eq, cutM_plug C _ HA.out.dir, cutM, if_neg (by omega), if_neg (by omega)])
    have HZ := hide (fun W (h1 : Kp wr W) => zipped_any _ l r pl pr Fl Fr W (Nat.le_refl _) (HL.out.kp h1) (HR.out.kp h1) G3.out)
    have hqn : ¬ (q.block ∈ Fl ∨ q.block ∈ Fr) := by
     rcases HA.out.zp.at_ with e | hx
     ·rw [e]
      rintro (h | h)
      ·exact HRF.out (HA.out.sub _ (.inl (by simp [h])))
      ·exact HRF.out (HA.out.sub _ (.inl (by simp [h])))
     ·rintro (h | h)
      ·exact HA.out.dis _ (by simp [h]) hx
      ·exact HA.out.dis _ (by simp [h]) hx
    have HQN := hide hqn
    have KW0 := Kp.refl wr
    have f0 := HA.out.fz
    have hql := World.block_lt_of_cell? _ _ c0
    clear hk hqn HML HMR HMS HD
    go_wp2_with fail
    go_region_law (go_simp; (go_at_call 175); (with_reducible refine (HZ.out _ ?_).mono ?_); (go_split_ands; (exact Kp.auto)); rintro e w2 ⟨p2, F2, rfl, hm2, hF2, hk2⟩; have c2 := hk2.cell HQN.out c0; have f2 := (hk2.frozen hql HQN.out).trans f0)
    all_goals
     have hdc : ∀ i, i ∈ Fl ∨ i ∈ Fr -> i ∉ Fc := fun i h => HA.out.dis i (by simp only [List.mem_cons, List.mem_append]; exact .inr h)
     have hdF : ∀ i, i ∈ Fl ∨ i ∈ Fr -> i ∈ F := fun i h => HA.out.sub i (.inl (by simp only [List.mem_cons, List.mem_append]; exact .inr h))
     obtain ⟨p1, F1, q1, q2, q3, q4⟩ := (HA.out.kpZ (Kp.refl wr).drew HRL.out).putG HRF.out HRL.out hk2 (fun i hi h => hdc i h hi) (fun h => HRF.out (hdF _ h)) hm2 (fun x hx => hdc x (hF2 x hx)) (fun h => HRF.out (hdF _ (hF2 _ h)))
     have HQ2 := hide q2
     have HQ3 := hide q3
     have HQ4 := hide q4
     have HDF := hide hdF
     have HHF := hide hF2
     clear q2 q3 q4 hdc hdF hm2 hF2 hk2
     go_wp2
     refine bodyPost_ret (v := .pointer p1) (by simp [results, Tryz.results136, go_sem]) rfl ⟨p1, F1, rfl, by rw [HT.out]; exact HQ2.out, fun x hx => .inl ?_, ?_⟩
     ·rcases HQ3.out x hx with h | h
      ·exact HDF.out x (HHF.out x h)
      ·exact HA.out.sub x (.inr h)
     ·exact (Kf.of (F := fun i => i ∈ F) (Kp.drew HKP.out)).trans HQ4.out (fun i hi h => by
       rcases h with h | h | h
       ·exact HDF.out i h
       ·rw [h] at hi; simp at hi
       ·exact HA.out.sub i (.inr h))
   ·have d1 : (a.1 != key) = true := by rw [bne_iff_ne]; omega
    have d2 : decide (key < a.1) = false := by simp; omega
    have HN := hide (HD.out.2 hk)
    clear HML
    go_wp2
    go_roundw
    case rel => exact ⟨_, _, _, _, _, _, rfl, HN.out, HRL.out, HKP.out⟩
    case measure => exact Nat.lt_of_lt_of_le (Nat.lt_of_le_of_lt (Nat.le_of_eq HMR.out) (by simp only [MT.size]; omega)) (Nat.le_of_eq HMS.out.symm)
def ZpRel (nt : TypeId) (w : World) (r0 : Addr) (bx : Nat) (T : MT IP) (F : List Nat) (P : IP) (qv : Value) (wr : World) : Prop :=
 ∃ C q t p Fc Ft, qv = .pointer (some q) /\ At_ wr nt ePair Prod.fst r0 T F P.1 C q t p Fc Ft /\ (∀ f ∈ C, ov f.a P = true) /\ BC wr bx nt (nodeC ePair P none none) /\ r0.block < wr.heap.size /\ Kp w wr
theorem zput_any (T : MT IP) (p0 : Option Addr) (F : List Nat) (key : Int) (w : World) (hm : MR w 245 ePair T p0 F) (hdb : DTb w) : Calls Tryz.prog 135 #[.pointer p0, .int .i64 key] w (ZmPost 245 (putM T (key, hgtF key)) F w) := by
 have hFl := hm.lt
 obtain ⟨h, hh⟩ : ∃ h, h = hgtF key := ⟨_, rfl⟩
 have HHG := hide (fun W hd => height_any key W hd)
 rw [<- hh] at HHG ⊢
 obtain ⟨r0, hr0⟩ : ∃ r0 : Addr, r0 = ⟨w.heap.size, 0, none⟩ := ⟨_, rfl⟩
 have HR0 := hide hr0
 have HRF : Hid (r0.block ∉ F) := hide (fun h => by have := hFl _ h; rw [hr0] at this; simp at this)
 have HBF : Hid (w.heap.size + 1 ∉ F) := hide (fun h => by have := hFl _ h; omega)
 have kk : Kp w ((w.alloc (.cells #[.pointer p0] 194)).alloc (.cells #[.int .i64 key, .int .i64 h, .pointer none, .pointer none] 245)) := (Kp.refl w).alloc.alloc
 have HS : Hid (At_ ((w.alloc (.cells #[.pointer p0] 194)).alloc (.cells #[.int .i64 key, .int .i64 h, .pointer none, .pointer none] 245)) 245 ePair Prod.fst r0 T F key [] r0 T p0 [] F) := hide (At_.start key (by rw [hr0]; exact ((Kp.refl _).alloc).cell (by simp [go_sem])) (by rw [hr0]; simp [go_sem]) (hm.kp kk))
 have HBX : Hid (BC ((w.alloc (.cells #[.pointer p0] 194)).alloc (.cells #[.int .i64 key, .int .i64 h, .pointer none, .pointer none] 245)) (w.heap.size + 1) 245 (nodeC ePair (key, h) none none)) := hide (by
  have h9 := BC.new (w.alloc (.cells #[.pointer p0] 194)) 245 (nodeC ePair (key, h) none none)
  rw [show (w.alloc (.cells #[.pointer p0] 194)).heap.size = w.heap.size + 1 by simp] at h9
  exact h9)
 have HDB : Hid (DTb (w.alloc (.cells #[.pointer p0] 194))) := hide (hdb.kp (Kp.refl w).alloc)
 have HKK := hide kk
 have hrb : Hid (r0.block = w.heap.size) := hide (by rw [hr0])
 clear hm hFl hdb kk hh
 go_enter Tryz.func135, Tryz.ntmps135
 go_wp2_with fail
 rw [<- HR0.out]
 with_reducible refine (HHG.out _ HDB.out).mono ?_
 rintro e w1 ⟨rfl, rfl⟩
 go_wp2
 go_loopw [6] (ZpRel 245 w r0 (w.heap.size + 1) T F (key, h)) (szAt 245 ePair)
 case atStart => exact ⟨[], r0, T, p0, [], F, by rw [HR0.out], HS.out, (fun f hf => absurd hf (by simp)), HBX.out, by rw [hrb.out]; simp <;> omega, HKK.out⟩
 case round =>
  obtain ⟨C, q, t, p, Fc, Ft, rfl, ha, hov, hbx, hrl, hkp⟩ := hrel
  have HA := hide ha
  have HOVC := hide hov
  have c0 := ha.cell
  have hm := ha.mr
  have HPL : Hid (∀ t', putM t (key, h) = t' -> putM T (key, h) = plug C t') := hide (fun t' e => by rw [ha.eq, putM_plug C _ ha.dir hov, e])
  cases p with
  | none =>
   obtain ⟨rfl, rfl⟩ := hm.of_none
   have HMW : Hid (MR wr 245 ePair .nil none []) := hide hm
   have HAW := HA
   have HBW := hide hbx
   have HRW := hide hrl
   have HKW := hide hkp
   have HPM : Hid (putM T (key, h) = plug C (.node (key, h) (unz .nil key).1 (unz .nil key).2)) := hide (HPL.out _ rfl)
   clear hm ha hov hbx hrl hkp
   go_wp2_with fail
   with_reducible refine (unzipped_any (.nil : MT IP) (none : Option Addr) [] key _ HMW.out).mono ?_
   rintro e w3 ⟨pa, pb, Fa, Fb, rfl, ha3, hb3, s1, s2, s3, hk3⟩
   have hbt : w.heap.size + 1 ∉ ([] : List Nat) := fun h => HBF.out (HAW.out.sub _ (.inl h))
   have hbc : w.heap.size + 1 ∉ Fc := fun h => HBF.out (HAW.out.sub _ (.inr h))
   have hrt : r0.block ∉ ([] : List Nat) := fun h => HRF.out (HAW.out.sub _ (.inl h))
   have hrc : r0.block ∉ Fc := fun h => HRF.out (HAW.out.sub _ (.inr h))
   have hrn : r0.block ≠ w.heap.size + 1 := by rw [hrb.out]; omega
   have hb3' : BC w3 (w.heap.size + 1) 245 (nodeC ePair (key, h) none none) := HBW.out.kf hk3 hbt
   have c2 : w3.cell? ⟨w.heap.size + 1, 2, none⟩ = some (.pointer none) := hb3'.link true
   have c3 : w3.cell? ⟨w.heap.size + 1, 3, none⟩ = some (.pointer none) := hb3'.link false
   have f2 := hb3'.frozen 2
   have f3 := hb3'.frozen 3
   have hqt : q.block ∉ ([] : List Nat) := by
    rcases HAW.out.zp.at_ with e | hx
    ·rw [e]; exact hrt
    ·exact fun h => HAW.out.dis _ h hx
   have hqb : q.block ≠ w.heap.size + 1 := by
    rcases HAW.out.zp.at_ with e | hx
    ·rw [e]; exact hrn
    ·intro h; rw [h] at hx; exact hbc hx
   have c0q := hk3.cell hqt HAW.out.cell
   have f0q := (hk3.frozen (World.block_lt_of_cell? _ _ HAW.out.cell) hqt).trans HAW.out.fz
   have q1 : ∀ (j : Nat) (u : Value) (X : World), (X.setCell ⟨w.heap.size + 1, j, none⟩ u).cell? q = X.cell? q := fun j u X => World.cell?_setCell_other _ _ _ _ (fun e => hqb (by rw [<- e]))
   have hXB : BC ((w3.setCell ⟨w.heap.size + 1, 2, none⟩ (.pointer pa)).setCell ⟨w.heap.size + 1, 3, none⟩ (.pointer pb)) (w.heap.size + 1) 245 (nodeC ePair (key, h) pa pb) := (hb3'.set (j := 2)).set (j := 3)
   have hba : w.heap.size + 1 ∉ Fa := fun h => hbt (s1 _ h)
   have hbb : w.heap.size + 1 ∉ Fb := fun h => hbt (s2 _ h)
   have hXM := MR.mk hXB hba hbb s3 ((ha3.set (q := ⟨w.heap.size + 1, 2, none⟩) (u := .pointer pa) hba).set (q := ⟨w.heap.size + 1, 3, none⟩) (u := .pointer pb) hba) ((hb3.set (q := ⟨w.heap.size + 1, 2, none⟩) (u := .pointer pa) hbb).set (q := ⟨w.heap.size + 1, 3, none⟩) (u := .pointer pb) hbb)
   have hXK : Kf (fun i => i ∈ ([] : List Nat) ∨ i = w.heap.size + 1) wr ((w3.setCell ⟨w.heap.size + 1, 2, none⟩ (.pointer pa)).setCell ⟨w.heap.size + 1, 3, none⟩ (.pointer pb)) := ((hk3.mono (fun i _ h => .inl h)).set (.inl (.inr rfl))).set (.inl (.inr rfl))
   have hsubF : ∀ x ∈ (w.heap.size + 1) :: (Fa ++ Fb), x ∈ ([] : List Nat) ∨ x = w.heap.size + 1 := fun x hx => by
    simp only [List.mem_cons, List.mem_append] at hx
    rcases hx with h | h | h
    ·exact .inr h
    ·exact .inl (s1 x h)
    ·exact .inl (s2 x h)
   obtain ⟨p1, F1, z1, z2, z3, z4⟩ := HAW.out.putG HRF.out HRW.out hXK (fun i hi h => h.elim (fun h => HAW.out.dis i h hi) (fun h => hbc (by rw [<- h]; exact hi))) (fun h => h.elim hrt hrn) hXM (fun x hx hx' => (hsubF x hx).elim (fun h => HAW.out.dis x h hx') (fun h => hbc (by rw [<- h]; exact hx'))) (fun hx => (hsubF _ hx).elim hrt hrn)
   have HZ2 := hide z2
   have HZ3 := hide z3
   have HZ4 := hide z4
   have HSF := hide hsubF
   rw [HR0.out] at z1
   clear hbt hbc hrt hrc hrn hb3' hqt hqb hXB hba hbb hXM hXK hsubF z2 z3 z4 ha3 hb3 s1 s2 s3 hk3
   go_wp2
   refine bodyPost_ret (v := .pointer p1) (by simp [results, Tryz.results135, go_sem]) rfl ⟨p1, F1, rfl, by rw [HPM.out]; exact HZ2.out, fun x hx => ?_, ?_⟩
   ·rcases HZ3.out x hx with h | h
    ·rcases HSF.out x h with h | h
     ·exact .inl (HAW.out.sub x (.inl h))
     ·exact .inr (by omega)
    ·exact .inl (HAW.out.sub x (.inr h))
   ·exact (Kf.of (F := fun i => i ∈ F) HKW.out).trans HZ4.out (fun i hi h => by
     rcases h with (h | h) | h | h
     ·exact HAW.out.sub i (.inl h)
     ·omega
     ·rw [hrb.out] at h; omega
     ·exact HAW.out.sub i (.inr h))
  | some ad =>
   obtain ⟨a, l, r, b, pl, pr, Fl, Fr, rfl, rfl, rfl, hb, g1, g2, g3, hl, hr⟩ := hm.of_some
   have x0 : wr.cell? ⟨b, 0, none⟩ = some (.int .i64 a.1) := hb.cell 0
   have x1 : wr.cell? ⟨b, 1, none⟩ = some (.int .i64 a.2) := hb.cell 1
   have HOV := hide (over_any b (w.heap.size + 1) a (key, h) wr x0 x1 (hbx.cell 0) (hbx.cell 1))
   have HMS := hide (szAt_eq c0 hm)
   have HB := hide hb
   have HL := hide hl
   have HR := hide hr
   have HD := hide (fun W (hk : Kp wr W) => (ha.kpZ hk hrl).down (hb.kp hk) g1 g2 g3 (hl.kp hk) (hr.kp hk))
   have HBX := hide hbx
   have HRL := hide hrl
   have HKP := hide hkp
   have HM := hide hm
   have hrw : ∀ W, Kp wr W -> r0.block < W.heap.size := fun W hk => Nat.lt_of_lt_of_le hrl hk.size
   have HRWW := hide hrw
   clear hb hl hr g1 g2 g3 ha hbx hrl hkp hm hrw
   cases hov2 : ov a (key, h) with
   | true =>
    rw [hov2] at HOV
    have HOC2 : Hid (∀ f ∈ (⟨a, true, r⟩ :: C : List (Fm IP)), ov f.a (key, h) = true) := hide (fun f hf => by rcases List.mem_cons.1 hf with rfl | hf; exact hov2; exact hov f hf)
    have HOC3 : Hid (∀ f ∈ (⟨a, false, l⟩ :: C : List (Fm IP)), ov f.a (key, h) = true) := hide (fun f hf => by rcases List.mem_cons.1 hf with rfl | hf; exact hov2; exact hov f hf)
    clear hov
    go_wp2_with fail
    with_reducible refine HOV.out.mono ?_
    rintro e w2 ⟨rfl, hb2⟩
    have kk2 : Kp wr w2 := Kp.of hb2
    have x0' := kk2.cell x0
    have c0' := kk2.cell c0
    clear hb2 x0 x1 c0
    have HKW := hide (HKP.out.trans kk2)
    have HAW := hide (HA.out.kpZ kk2 HRL.out)
    rcases Int.lt_trichotomy key a.1 with hk | hk | hk
    ·have d1 : (key == a.1) = false := by simp; omega
     have HN := hide ((HD.out _ kk2).1 hk)
     have HML := hide (szAt_eq ((HB.out.kp kk2).link true) (HL.out.kp kk2))
     go_wp2
     go_roundw
     case rel => exact ⟨_, _, _, _, _, _, rfl, HN.out, HOC2.out, HBX.out.kp kk2, HRWW.out _ kk2, HKW.out⟩
     case measure => exact Nat.lt_of_lt_of_le (Nat.lt_of_le_of_lt (Nat.le_of_eq HML.out) (by simp only [MT.size]; omega)) (Nat.le_of_eq HMS.out.symm)
    ·have d1 : (key == a.1) = true := by simp [hk]
     have HPM : Hid (putM T (key, h) = plug C (.node a l r)) := hide (HPL.out _ (by rw [putM, if_pos hov2, if_pos hk]))
     clear hk
     obtain ⟨p1, F1, z1, z2, z3⟩ := HAW.out.zp.close HAW.out.cell HAW.out.mr HAW.out.dis
     have HZ2 := hide z2
     have HZ3 := hide z3
     rw [HR0.out] at z1
     clear z2 z3
     go_wp2
     exact bodyPost_ret (v := .pointer p1) (by simp [results, Tryz.results135, go_sem]) rfl ⟨p1, F1, rfl, by rw [HPM.out]; exact HZ2.out, fun x hx => .inl (HAW.out.sub x ((HZ3.out x).1 hx)), Kf.of HKW.out⟩
    ·have d1 : (key == a.1) = false := by simp; omega
     have d2 : decide (key < a.1) = false := by simp; omega
     have HN := hide ((HD.out _ kk2).2 hk)
     have HMR := hide (szAt_eq ((HB.out.kp kk2).link false) (HR.out.kp kk2))
     go_wp2
     go_roundw
     case rel => exact ⟨_, _, _, _, _, _, rfl, HN.out, HOC3.out, HBX.out.kp kk2, HRWW.out _ kk2, HKW.out⟩
     case measure => exact Nat.lt_of_lt_of_le (Nat.lt_of_le_of_lt (Nat.le_of_eq HMR.out) (by simp only [MT.size]; omega)) (Nat.le_of_eq HMS.out.symm)
   | false =>
    rw [hov2] at HOV
    clear hov
    go_wp2_with fail
    with_reducible refine HOV.out.mono ?_
    rintro e w2 ⟨rfl, hb2⟩
    have kk2 : Kp wr w2 := Kp.of hb2
    have x0' := kk2.cell x0
    have c0' := kk2.cell c0
    clear hb2 x0 x1 c0
    have HKW := hide (HKP.out.trans kk2)
    have HAW := hide (HA.out.kpZ kk2 HRL.out)
    by_cases hk : a.1 = key
    ·have d1 : (a.1 == key) = true := by simp [hk]
     have HPM : Hid (putM T (key, h) = plug C (.node a l r)) := hide (HPL.out _ (by rw [putM, if_neg (by simp [hov2]), if_pos hk]))
     clear hk
     obtain ⟨p1, F1, z1, z2, z3⟩ := HAW.out.zp.close HAW.out.cell HAW.out.mr HAW.out.dis
     have HZ2 := hide z2
     have HZ3 := hide z3
     rw [HR0.out] at z1
     clear z2 z3
     go_wp2
     exact bodyPost_ret (v := .pointer p1) (by simp [results, Tryz.results135, go_sem]) rfl ⟨p1, F1, rfl, by rw [HPM.out]; exact HZ2.out, fun x hx => .inl (HAW.out.sub x ((HZ3.out x).1 hx)), Kf.of HKW.out⟩
    ·have d1 : (a.1 == key) = false := by simpa using hk
     have HPM : Hid (putM T (key, h) = plug C (.node (key, h) (unz (.node a l r) key).1 (unz (.node a l r) key).2)) := hide (HPL.out _ (by rw [putM, if_neg (by simp [hov2]), if_neg hk]))
     have HMW := hide (HM.out.kp kk2)
     have HBW := hide (HBX.out.kp kk2)
     have HRW := hide (HRWW.out _ kk2)
     clear hk
     go_wp2_with fail
     with_reducible refine (unzipped_any (.node a l r : MT IP) (some ⟨b, 0, none⟩ : Option Addr) (b :: (Fl ++ Fr)) key _ HMW.out).mono ?_
     rintro e w3 ⟨pa, pb, Fa, Fb, rfl, ha3, hb3, s1, s2, s3, hk3⟩
     have hbt : w.heap.size + 1 ∉ ((b :: (Fl ++ Fr)) : List Nat) := fun h => HBF.out (HAW.out.sub _ (.inl h))
     have hbc : w.heap.size + 1 ∉ Fc := fun h => HBF.out (HAW.out.sub _ (.inr h))
     have hrt : r0.block ∉ ((b :: (Fl ++ Fr)) : List Nat) := fun h => HRF.out (HAW.out.sub _ (.inl h))
     have hrc : r0.block ∉ Fc := fun h => HRF.out (HAW.out.sub _ (.inr h))
     have hrn : r0.block ≠ w.heap.size + 1 := by rw [hrb.out]; omega
     have hb3' : BC w3 (w.heap.size + 1) 245 (nodeC ePair (key, h) none none) := HBW.out.kf hk3 hbt
     have c2 : w3.cell? ⟨w.heap.size + 1, 2, none⟩ = some (.pointer none) := hb3'.link true
     have c3 : w3.cell? ⟨w.heap.size + 1, 3, none⟩ = some (.pointer none) := hb3'.link false
     have f2 := hb3'.frozen 2
     have f3 := hb3'.frozen 3
     have hqt : q.block ∉ ((b :: (Fl ++ Fr)) : List Nat) := by
      rcases HAW.out.zp.at_ with e | hx
      ·rw [e]; exact hrt
      ·exact fun h => HAW.out.dis _ h hx
     have hqb : q.block ≠ w.heap.size + 1 := by
      rcases HAW.out.zp.at_ with e | hx
      ·rw [e]; exact hrn
      ·intro h; rw [h] at hx; exact hbc hx
     have c0q := hk3.cell hqt HAW.out.cell
     have f0q := (hk3.frozen (World.block_lt_of_cell? _ _ HAW.out.cell) hqt).trans HAW.out.fz
     have q1 : ∀ (j : Nat) (u : Value) (X : World), (X.setCell ⟨w.heap.size + 1, j, none⟩ u).cell? q = X.cell? q := fun j u X => World.cell?_setCell_other _ _ _ _ (fun e => hqb (by rw [<- e]))
     have hXB : BC ((w3.setCell ⟨w.heap.size + 1, 2, none⟩ (.pointer pa)).setCell ⟨w.heap.size + 1, 3, none⟩ (.pointer pb)) (w.heap.size + 1) 245 (nodeC ePair (key, h) pa pb) := (hb3'.set (j := 2)).set (j := 3)
     have hba : w.heap.size + 1 ∉ Fa := fun h => hbt (s1 _ h)
     have hbb : w.heap.size + 1 ∉ Fb := fun h => hbt (s2 _ h)
     have hXM := MR.mk hXB hba hbb s3 ((ha3.set (q := ⟨w.heap.size + 1, 2, none⟩) (u := .pointer pa) hba).set (q := ⟨w.heap.size + 1, 3, none⟩) (u := .pointer pb) hba) ((hb3.set (q := ⟨w.heap.size + 1, 2, none⟩) (u := .pointer pa) hbb).set (q := ⟨w.heap.size + 1, 3, none⟩) (u := .pointer pb) hbb)
     have hXK : Kf (fun i => i ∈ ((b :: (Fl ++ Fr)) : List Nat) ∨ i = w.heap.size + 1) w2 ((w3.setCell ⟨w.heap.size + 1, 2, none⟩ (.pointer pa)).setCell ⟨w.heap.size + 1, 3, none⟩ (.pointer pb)) := ((hk3.mono (fun i _ h => .inl h)).set (.inl (.inr rfl))).set (.inl (.inr rfl))
     have hsubF : ∀ x ∈ (w.heap.size + 1) :: (Fa ++ Fb), x ∈ ((b :: (Fl ++ Fr)) : List Nat) ∨ x = w.heap.size + 1 := fun x hx => by
      simp only [List.mem_cons, List.mem_append] at hx
      rcases hx with h | h | h
      ·exact .inr h
      ·exact .inl (s1 x h)
      ·exact .inl (s2 x h)
     obtain ⟨p1, F1, z1, z2, z3, z4⟩ := HAW.out.putG HRF.out HRW.out hXK (fun i hi h => h.elim (fun h => HAW.out.dis i h hi) (fun h => hbc (by rw [<- h]; exact hi))) (fun h => h.elim hrt hrn) hXM (fun x hx hx' => (hsubF x hx).elim (fun h => HAW.out.dis x h hx') (fun h => hbc (by rw [<- h]; exact hx'))) (fun hx => (hsubF _ hx).elim hrt hrn)
     have HZ2 := hide z2
     have HZ3 := hide z3
     have HZ4 := hide z4
     have HSF := hide hsubF
     rw [HR0.out] at z1
     clear hbt hbc hrt hrc hrn hb3' hqt hqb hXB hba hbb hXM hXK hsubF z2 z3 z4 ha3 hb3 s1 s2 s3 hk3
     go_wp2
     refine bodyPost_ret (v := .pointer p1) (by simp [results, Tryz.results135, go_sem]) rfl ⟨p1, F1, rfl, by rw [HPM.out]; exact HZ2.out, fun x hx => ?_, ?_⟩
     ·rcases HZ3.out x hx with h | h
      ·rcases HSF.out x h with h | h
       ·exact .inl (HAW.out.sub x (.inl h))
       ·exact .inr (by omega)
      ·exact .inl (HAW.out.sub x (.inr h))
     ·exact (Kf.of (F := fun i => i ∈ F) HKW.out).trans HZ4.out (fun i hi h => by
       rcases h with (h | h) | h | h
       ·exact HAW.out.sub i (.inl h)
       ·omega
       ·rw [hrb.out] at h; omega
       ·exact HAW.out.sub i (.inr h))
theorem zipTold_any (t : MT IP) (p : Option Addr) (F : List Nat) (w : World) (hm : MR w 245 ePair t p F) (hs : t.size <= 1000) : Calls Tryz.prog 137 #[.pointer p] w (RetRD ePair (t.spotsBy Prod.fst 0) w) := by
 have HO := hide (OB.new (B := w.heap.size) (st := 72) (e := 108) (E := ePair) w (Nat.le_refl _))
 have HC := hide (zip_spots_any w.heap.size w.heap.size (Nat.le_refl _) t p F 0 [] _ (hm.kp (Kp.refl w).alloc) (by omega) (by omega) (by simp; omega) HO.out (by simp))
 clear hm
 go_enter Tryz.func137, Tryz.ntmps137
 go_wp2_with fail
 with_reducible refine HC.out.mono ?_
 rintro e w1 ⟨rfl, ho1, hk1⟩
 have k1 := hk1.none (Kp.refl w).alloc (Nat.le_refl _) (by simp [go_sem])
 rw [List.nil_append] at ho1
 obtain ⟨u, hb, hu, hn⟩ := ho1
 have g0 := hb.cell 0
 obtain ⟨A3, N3, c3, rfl⟩ := hu.rd.slice
 have HU := hide hu.rd
 have K1 := hide k1
 clear hk1 hb hu hn k1
 go_wp2
 go_ret
 exact ⟨_, rfl, HU.out, K1.out.bel⟩
theorem unz_size : ∀ (t : MT IP) (k : Int), (unz t k).1.size + (unz t k).2.size = t.size
 | .nil, _ => rfl
 | .node a l r, k => by
  have h1 := unz_size l k
  have h2 := unz_size r k
  unfold unz
  split
  ·simp only [MT.size]; omega
  ·simp only [MT.size]; omega
theorem zipM_size : ∀ (n : Nat) (t u : MT IP), t.size + u.size <= n -> (zipM t u).size = t.size + u.size
 | _, .nil, u, _ => by rw [zipM]; simp [MT.size]
 | _, .node a l r, .nil, _ => by rw [zipM_nil]; simp [MT.size]
 | 0, .node a l r, .node c x y, h => by simp [MT.size] at h
 | n + 1, .node a l r, .node c x y, h => by
  simp only [MT.size] at h
  have h1 := zipM_size n r (.node c x y) (by simp only [MT.size]; omega)
  have h2 := zipM_size n (.node a l r) x (by simp only [MT.size]; omega)
  simp only [MT.size] at h1 h2
  rw [zipM_node]
  split
  ·simp only [MT.size]; omega
  ·simp only [MT.size]; omega
theorem putM_size : ∀ (t : MT IP) (p : IP), (putM t p).size <= t.size + 1
 | .nil, p => by simp [putM, MT.size]
 | .node a l r, p => by
  have h1 := putM_size l p
  have h2 := putM_size r p
  have h3 := unz_size (.node a l r) p.1
  unfold putM
  split
  ·split
   ·omega
   ·split <;> simp only [MT.size] <;> omega
  ·split
   ·omega
   ·simp only [MT.size] at h3 ⊢; omega
theorem cutM_size : ∀ (t : MT IP) (k : Int), (cutM t k).size <= t.size
 | .nil, _ => by simp [cutM]
 | .node a l r, k => by
  have h1 := cutM_size l k
  have h2 := cutM_size r k
  have h3 := zipM_size _ l r (Nat.le_refl _)
  unfold cutM
  split
  ·simp only [MT.size]; omega
  ·split
   ·simp only [MT.size]; omega
   ·simp only [MT.size]; omega
def zrS (T : MT IP) (o : O3) (a : An) : MT IP := if a.err ≠ 0 then T else if o.1 = 1 then putM T (o.2.1, hgtF o.2.1) else if o.1 = 3 then cutM T o.2.1 else T
def zrT (z : List (O3 × An)) : MT IP := z.foldl (fun T p => zrS T p.1 p.2) .nil
theorem zrT_snoc (z : List (O3 × An)) (k : Nat) (h : k < z.length) : zrT (z.take (k + 1)) = zrS (zrT (z.take k)) z[k].1 z[k].2 := by
 rw [List.take_succ_eq_append_getElem h, zrT, List.foldl_append]; rfl
theorem zrS_size (T : MT IP) (o : O3) (a : An) : (zrS T o a).size <= T.size + 1 := by
 unfold zrS
 split
 ·omega
 ·split
  ·exact putM_size _ _
  ·split
   ·have := cutM_size T o.2.1; omega
   ·omega
theorem zrT_size (z : List (O3 × An)) (k : Nat) (h : k <= z.length) : (zrT (z.take k)).size <= k := by
 induction k with
 | zero => simp [zrT, MT.size]
 | succ k ih => rw [zrT_snoc z k (by omega)]; have := zrS_size (zrT (z.take k)) z[k].1 z[k].2; have := ih (by omega); omega
def opsA (ops : List O3) : List (O3 × An) := ops.zip (runL ops).2
def zipRun (ops : List O3) : List IP × List An × Int := if ops.length > 300 then ([], [], 2) else ((zrT (opsA ops)).spotsBy Prod.fst 0, (runL ops).2, 0)
def ZuRel (z : List (O3 × An)) (w0 : World) (nt : TypeId) (rv iv : Value) (wr : World) : Prop := ∃ (k : Nat) (p : Option Addr) (F : List Nat), k <= z.length /\ iv = .int .i64 k /\ rv = .pointer p /\ MR wr nt ePair (zrT (z.take k)) p F /\ (∀ x ∈ F, w0.heap.size <= x) /\ Kp w0 wr
theorem ZmPost.own {nt : TypeId} {T' : MT IP} {F : List Nat} {w0 w w' : World} {e : Ending} (h : ZmPost nt T' F w e w') (hF : ∀ x ∈ F, w0.heap.size <= x) (hk : Kp w0 w) :
  ∃ p F', e = .returned (.pointer p) /\ MR w' nt ePair T' p F' /\ (∀ x ∈ F', w0.heap.size <= x) /\ Kp w0 w' := by
 obtain ⟨p, F', h1, h2, h3, h4⟩ := h
 have hz := hk.size
 refine ⟨p, F', h1, h2, fun x hx => ?_, h4.kp hk hF⟩
 rcases h3 x hx with h | h
 ·exact hF x h
 ·omega
theorem zipRun_any (ops : List O3) (v : Value) (w : World) (hr : RD w eOp v ops) (hdb : DTb w) : Calls Tryz.prog 82 #[v] w (RunPost (zipRun ops) w) := by
 obtain ⟨A, c, rfl, hc, hm⟩ := hr.shape
 have HR := hide hr
 have HRU := hide (fun W v h => run_any ops v W h)
 have HDB := hide hdb
 clear hr hdb
 by_cases hlen : ops.length > 300
 ·have h1 : runOf ops = ([], [], 2) := by rw [runOf, if_pos hlen]
  have H1 : Hid (zipRun ops = ([], [], 2)) := hide (by rw [zipRun, if_pos hlen])
  rw [h1] at HRU
  clear h1
  go_enter Tryz.func82, Tryz.ntmps82
  go_wp2_with fail
  with_reducible refine (HRU.out _ _ HR.out).mono ?_
  rintro e w1 ⟨v1, u1, rfl, hr1, hu1, hb1⟩
  obtain ⟨A1, c1, rfl, _, _⟩ := hr1.shape
  obtain ⟨A2, c2, rfl, _, _⟩ := hu1.shape
  clear hr1 hu1
  go_wp2
  go_ret3
  exact ⟨_, _, by rw [H1.out]; rfl, by rw [H1.out]; exact RD.nil, by rw [H1.out]; exact RD.nil, hb1⟩
 ·have h1 : runOf ops = ((runL ops).1, (runL ops).2, 0) := by rw [runOf, if_neg hlen]
  have H1 : Hid (zipRun ops = ((zrT (opsA ops)).spotsBy Prod.fst 0, (runL ops).2, 0)) := hide (by rw [zipRun, if_neg hlen])
  have hal := runL_len ops ops.length (Nat.le_refl _)
  rw [List.take_length] at hal
  have hzl : (opsA ops).length = ops.length := by rw [opsA, List.length_zip, hal]; omega
  have hzk : ∀ k (h : k < (opsA ops).length) (h1 : k < ops.length) (h2 : k < (runL ops).2.length), (opsA ops)[k] = (ops[k], (runL ops).2[k]) := fun k h h1 h2 => by simp [opsA]
  obtain ⟨z, hz⟩ : ∃ z, z = opsA ops := ⟨_, rfl⟩
  rw [<- hz] at H1 hzl
  have HZK : Hid (∀ k (h : k < z.length) (h1 : k < ops.length) (h2 : k < (runL ops).2.length), z[k] = (ops[k], (runL ops).2[k])) := hide (by rw [hz]; exact hzk)
  rw [h1] at HRU
  obtain ⟨an, han⟩ : ∃ a, a = (runL ops).2 := ⟨_, rfl⟩
  rw [<- han] at HRU H1 HZK hal
  have HZL := hide hzl
  have HAL := hide hal
  clear h1 hz hzk hzl hal han
  go_enter Tryz.func82, Tryz.ntmps82
  go_wp2_with fail
  with_reducible refine (HRU.out _ _ HR.out).mono ?_
  rintro e w1 ⟨v1, u1, rfl, hr1, hu1, hb1⟩
  obtain ⟨A1, c1, rfl, _, _⟩ := hr1.shape
  obtain ⟨A2, c2, rfl, hc2, hm2⟩ := hu1.shape
  have k1 : Kp w w1 := hb1
  have HK1 := hide k1
  have HU := hide hu1
  have hcc : an.length <= 9223372036854775807 := by have h := hc2; simp only at h; omega
  clear hr1 hu1 hb1 k1
  go_wp2
  go_loopw [8, 22] (ZuRel z w1 245) (fun _ i _ => z.length - (intOf i).toNat)
  case atStart => exact ⟨0, none, [], by omega, rfl, rfl, MR.nil, by simp, Kp.refl _⟩
  case round =>
   obtain ⟨k, p, F, hk, rfl, rfl, hmr, hF, hkp⟩ := hrel
   have hsz := zrT_size z k hk
   have HMR := hide hmr
   have HFF := hide hF
   have HKP := hide hkp
   clear hmr hF
   by_cases hlt : k < z.length
   ·have hko : k < ops.length := by rw [<- HZL.out]; exact hlt
    have hka : k < an.length := by rw [HAL.out]; exact hko
    have bka : (k : Int) < (an.length : Int) := by omega
    obtain ⟨b, o, rfl, _, x0, x1, x2⟩ := (HR.out.kp (HK1.out.trans hkp)).op hko
    obtain ⟨b2, o2, rfl, _, y0, _, _, _⟩ := (HU.out.kp hkp).ans hka
    have hst := zrT_snoc z k hlt
    rw [HZK.out k hlt hko hka] at hst
    simp only [zrS] at hst
    obtain ⟨T0, hT0⟩ : ∃ T0, T0 = zrT (z.take k) := ⟨_, rfl⟩
    obtain ⟨er, her⟩ : ∃ er, er = an[k].err := ⟨_, rfl⟩
    obtain ⟨⟨kd, ke, va⟩, hop⟩ : ∃ P, P = ops[k] := ⟨_, rfl⟩
    rw [<- hT0] at HMR hst
    rw [<- her] at y0 hst
    rw [<- hop] at x0 x1 x2 hst
    simp only at x0 x1 x2 hst
    have y0' := ((Kp.refl wr).alloc (o := .cells #[.int .i64 kd, .int .i64 ke, .int .i64 va] 82)).cell y0
    have HST := hide hst
    have HPU := hide (fun W (hk : Kp wr W) => zput_any T0 p F ke W (HMR.out.kp hk) (HDB.out.kp (HK1.out.trans (HKP.out.trans hk))))
    have HCU := hide (fun W (hk : Kp wr W) => zcut_any T0 p F ke W (HMR.out.kp hk))
    have KA : Kp wr (wr.alloc (.cells #[.int .i64 kd, .int .i64 ke, .int .i64 va] 82)) := (Kp.refl wr).alloc
    clear hT0 her hop hst hkp
    by_cases he : er = 0
    ·subst he
     by_cases h1 : kd = 1
     ·subst h1
      have HN : Hid (zrT (z.take (k + 1)) = putM T0 (ke, hgtF ke)) := hide (by rw [HST.out]; simp)
      obtain ⟨T1, hT1⟩ : ∃ T1, T1 = putM T0 (ke, hgtF ke) := ⟨_, rfl⟩
      rw [<- hT1] at HN HPU
      clear hT1
      go_wp2_with fail
      with_reducible refine (HPU.out _ KA).mono ?_
      intro e w2 hpost
      obtain ⟨p2, F2, rfl, m1, m2, m3⟩ := hpost.own HFF.out (HKP.out.trans KA)
      have M1 := hide m1
      have M2 := hide m2
      have M3 := hide m3
      clear hpost m1 m2 m3
      go_wp2
      go_roundw
      case rel => exact ⟨k + 1, p2, F2, by omega, by go_num, rfl, by rw [HN.out]; exact M1.out, M2.out, M3.out⟩
      case measure => simp [intOf]; omega
     ·have d2 : (kd == 1) = false := by simpa using h1
      by_cases h3 : kd = 3
      ·subst h3
       have HN : Hid (zrT (z.take (k + 1)) = cutM T0 ke) := hide (by rw [HST.out]; simp)
       obtain ⟨T1, hT1⟩ : ∃ T1, T1 = cutM T0 ke := ⟨_, rfl⟩
       rw [<- hT1] at HN HCU
       clear hT1
       go_wp2_with fail
       with_reducible refine (HCU.out _ KA).mono ?_
       intro e w2 hpost
       obtain ⟨p2, F2, rfl, m1, m2, m3⟩ := hpost.own HFF.out (HKP.out.trans KA)
       have M1 := hide m1
       have M2 := hide m2
       have M3 := hide m3
       clear hpost m1 m2 m3
       go_wp2
       go_roundw
       case rel => exact ⟨k + 1, p2, F2, by omega, by go_num, rfl, by rw [HN.out]; exact M1.out, M2.out, M3.out⟩
       case measure => simp [intOf]; omega
      ·have d3 : (kd == 3) = false := by simpa using h3
       have HN : Hid (zrT (z.take (k + 1)) = T0) := hide (by rw [HST.out]; simp [h1, h3])
       go_wp2
       go_roundw
       case rel => exact ⟨k + 1, p, F, by omega, by go_num, rfl, by rw [HN.out]; exact HMR.out.kp KA, HFF.out, HKP.out.trans KA⟩
       case measure => simp [intOf]; omega
    ·have d1 : (er != 0) = true := by simpa using he
     have HN : Hid (zrT (z.take (k + 1)) = T0) := hide (by rw [HST.out]; simp [he])
     go_wp2
     go_roundw
     case rel => exact ⟨k + 1, p, F, by omega, by go_num, rfl, by rw [HN.out]; exact HMR.out.kp KA, HFF.out, HKP.out.trans KA⟩
     case measure => simp [intOf]; omega
   ·have hkz : k = z.length := by omega
    subst hkz
    have hS : Hid (z.take z.length = z) := hide (by simp)
    have hlo : ¬ ((z.length : Int) < (ops.length : Int)) := by rw [HZL.out]; omega
    have HT := hide (zipTold_any (zrT (z.take z.length)) p F wr HMR.out (by have := HZL.out; omega))
    go_wp2_with fail
    with_reducible refine HT.out.mono ?_
    rintro e w2 ⟨v2, rfl, hr2, hb2⟩
    have HR2 := hide hr2
    have kk2 : Kp wr w2 := Kp.of hb2
    clear hr2 hb2
    go_wp2
    go_ret3
    exact ⟨_, _, by rw [H1.out]; rfl, by rw [H1.out]; have h := HR2.out; rwa [hS.out] at h, by rw [H1.out]; exact HU.out.kp (HKP.out.trans kk2), (HK1.out.trans (HKP.out.trans kk2)).bel⟩
end Go.Proofs.YtcljlnagpjilaaaGreatDoor
