/-
  Plain laws: hedgref.TreeOf makes of right spots the tree that shape.Parents reads, and these spots again; hedgref.SpotsRight: what it answers. Conditions: the list reads as l (RD).
-/
import Derived.Test.YtcpponjknmkfaaaTreeOf
namespace Go.Proofs.Ytcpponjknmkfaaa
open Go.ChangeShapes Go.WideShapes Go.ChangeAt Go.RowKit
set_option linter.unusedVariables false
set_option linter.unusedSimpArgs false

def toT (l : List IP) : PT → T
  | .nil => .nil
  | .node p a b => .node (gk l p) (toT l a) (toT l b)
theorem seg_len (l : List IP) (lo hi : Nat) (h1 : lo ≤ hi) (h2 : hi ≤ l.length) : ((l.take hi).drop lo).length = hi - lo := by simp; omega
theorem seg_gv (l : List IP) (lo hi j : Nat) (h2 : hi ≤ l.length) (hj : j < hi - lo) : gv ((l.take hi).drop lo) j = gv l (lo + j) := by
  rw [gv_eq _ j (by rw [seg_len l lo hi (by omega) h2]; exact hj), gv_eq l (lo + j) (by omega)]; simp
theorem seg_gk (l : List IP) (lo hi j : Nat) (h2 : hi ≤ l.length) (hj : j < hi - lo) : gk ((l.take hi).drop lo) j = gk l (lo + j) := by
  rw [gk_eq _ j (by rw [seg_len l lo hi (by omega) h2]; exact hj), gk_eq l (lo + j) (by omega)]; simp
theorem seg_take (l : List IP) (lo hi m : Nat) (h : lo ≤ m) (hm : m ≤ hi) : ((l.take hi).drop lo).take (m - lo) = (l.take m).drop lo := by
  rw [List.take_drop, show lo + (m - lo) = m from by omega, List.take_take, Nat.min_eq_left hm]
theorem seg_drop (l : List IP) (lo hi m : Nat) (h : lo ≤ m) : ((l.take hi).drop lo).drop (m - lo + 1) = (l.take hi).drop (m + 1) := by
  rw [List.drop_drop]; congr 1; omega
theorem treeOf_seg (l : List IP) (lo hi : Nat) (d : Int) (h1 : lo ≤ hi) (h2 : hi ≤ l.length) :
    (treeOf ((l.take hi).drop lo) d).2 = (ptR l lo hi d).isSome ∧ ∀ t, ptR l lo hi d = some t → (treeOf ((l.take hi).drop lo) d).1 = toT l t := by
  by_cases hlt : lo < hi
  · have hsl := seg_len l lo hi h1 h2
    have htin := topS_in l lo hi hlt
    have hmin := topS_min l lo hi hlt
    by_cases hok : (topS l lo hi).2 = true ∧ gv l (topS l lo hi).1 = d
    · obtain ⟨m, hm⟩ : ∃ m, m = (topS l lo hi).1 := ⟨_, rfl⟩
      have htop : topS l lo hi = (m, true) := by rw [hm, ← hok.1]
      have hgd : gv l m = d := by rw [hm]; exact hok.2
      have hst := hmin.2 hok.1
      rw [← hm] at htin hst
      have hnode := treeOf_node ((l.take hi).drop lo) d (m - lo) (by omega) (by rw [seg_gv l lo hi _ h2 (by omega), show lo + (m - lo) = m from by omega, hgd]) (fun j j1 j2 => by
        rw [seg_gv l lo hi j h2 (by omega)]
        have := hst (lo + j) (by omega) (by omega) (by omega)
        omega)
      rw [seg_take l lo hi m (by omega) (by omega), seg_drop l lo hi m (by omega), seg_gk l lo hi _ h2 (by omega), show lo + (m - lo) = m from by omega] at hnode
      obtain ⟨a1, a2⟩ := treeOf_seg l lo m (d + 1) htin.1 (by omega)
      obtain ⟨b1, b2⟩ := treeOf_seg l (m + 1) hi (d + 1) (by omega) h2
      rw [hnode, ptR_node l lo hi d hlt m htop hgd]
      simp only
      rw [a1, b1]
      cases ha : ptR l lo m (d + 1) with
      | none => simp
      | some ta =>
        cases hb : ptR l (m + 1) hi (d + 1) with
        | none => simp
        | some tb =>
          refine ⟨rfl, fun t ht => ?_⟩
          simp only [Option.some.injEq] at ht
          subst ht
          rw [a2 ta ha, b2 tb hb]; rfl
    · rw [treeOf_none ((l.take hi).drop lo) d (by intro e; rw [e] at hsl; simp at hsl; omega) (by
        rintro ⟨x, x1, x2, x3⟩
        rw [hsl] at x1
        rw [seg_gv l lo hi x h2 x1] at x2
        have ht := topS_find l lo hi (lo + x) (by omega) (by omega) (fun j j1 j2 j3 => by
          have := x3 (j - lo) (by omega) (by omega)
          rw [seg_gv l lo hi _ h2 (by omega), show lo + (j - lo) = j from by omega] at this
          omega)
        exact hok ⟨by rw [ht], by rw [ht]; exact x2⟩), ptR_none l lo hi d hlt hok]
      exact ⟨rfl, fun t ht => by cases ht⟩
  · obtain rfl : lo = hi := by omega
    have : (l.take lo).drop lo = [] := by simp
    rw [this, treeOf_nil, ptR_nil l lo lo d hlt]
    exact ⟨rfl, fun t ht => by injection ht with ht; subst ht; rfl⟩
termination_by hi - lo
theorem treeOf_whole (l : List IP) : (treeOf l 0).2 = (ptR l 0 l.length 0).isSome ∧ ∀ t, ptR l 0 l.length 0 = some t → (treeOf l 0).1 = toT l t := by
  have := treeOf_seg l 0 l.length 0 (by omega) (Nat.le_refl _)
  simpa using this
theorem toT_spots (l : List IP) : ∀ (t : PT) (lo hi : Nat) (d : Int), t.At lo → hi = lo + t.size → hi ≤ l.length → (∀ j, j < t.size → some (gv l (lo + j)) = (t.deps d)[j]?) → (toT l t).spots d = (l.take hi).drop lo
  | .nil, lo, hi, d, _, h, _, _ => by simp [PT.size] at h; subst h; simp [toT, T.spots]
  | .node p a b, lo, hi, d, ⟨hp, ha, hb⟩, h, h3, hg => by
    simp only [PT.size] at h hg
    have hgp : gv l p = d := by
      have := hg a.size (by omega)
      rw [PT.deps_node, if_neg (by omega), if_pos rfl, ← hp] at this
      exact Option.some.inj this
    have ia := toT_spots l a lo p (d + 1) ha hp (by omega) (fun j hj => by
      have := hg j (by omega)
      rwa [PT.deps_node, if_pos hj] at this)
    have ib := toT_spots l b (p + 1) hi (d + 1) hb (by omega) h3 (fun j hj => by
      have := hg (a.size + 1 + j) (by omega)
      rw [PT.deps_node, if_neg (by omega), if_neg (by omega), show a.size + 1 + j - (a.size + 1) = j from by omega, show lo + (a.size + 1 + j) = p + 1 + j from by omega] at this
      exact this)
    rw [toT, T.spots, ia, ib, seg_split l lo p hi (by omega) (by omega) h3]
    have : ((gk l p, d) : IP) = l[p]'(by omega) := Prod.ext (gk_eq l p (by omega)) (by rw [← hgp]; exact gv_eq l p (by omega))
    rw [this]
theorem treeOf_spots (l : List IP) (h : (parOf l).2 = 0) : (treeOf l 0).1.spots 0 = l ∧ (treeOf l 0).2 = true := by
  obtain ⟨h1, h2, t, ht, _⟩ := parOf_len l h
  obtain ⟨h3, h4, h5⟩ := ptR_to l 0 l.length 0 t (by omega) ht
  obtain ⟨w1, w2⟩ := treeOf_whole l
  refine ⟨?_, by rw [w1, ht]; rfl⟩
  rw [w2 t ht, toT_spots l t 0 l.length 0 h3 (by omega) (Nat.le_refl _) h5]
  simp

set_option maxHeartbeats 2000000 in
theorem spotsRight_any (l : List IP) (v : Value) (w : World) (hr : RD w ePair v l) : Calls Try.prog 13 #[v] w (Ret (.int .i64 (parOf l).2) w) := by
  obtain ⟨A, c, rfl, hc, hm⟩ := hr.shape
  by_cases hlen : l.length > 200
  · have hp : Hid ((parOf l).2 = 2) := hide (by
      have : mapRight l = 2 := by rw [mapRight, if_pos hlen]
      rw [parOf, if_pos (by rw [this]; decide), this])
    go_enter Try.func13, Try.ntmps13
    go_wp2
    go_ret
    exact ⟨by rw [hp.out]; rfl, Below.refl _ _⟩
  · have hres : Hid (mapRight l = mrFrom (-1) l) := hide (by simp [mapRight, hlen])
    have h3f : Hid (mrFrom (-1) l = 3 → (parOf l).2 = 3) := hide (fun h => by rw [parOf, hres.out, h, if_pos (by decide)])
    have HTO := hide (fun W h => treeOf_any 1000 l (.slice A l.length c) 0 W (by omega) (by omega) (by omega) (by omega) h)
    have HPO : Hid (mrFrom (-1) l = 0 → (parOf l).2 = if (treeOf l 0).2 then 0 else 3) := hide (fun h => by
      rw [parOf, hres.out, h, if_neg (by decide), (treeOf_whole l).1]
      cases ptR l 0 l.length 0 <;> rfl)
    obtain ⟨P, hP⟩ : ∃ P, P = treeOf l 0 := ⟨_, rfl⟩
    rw [← hP] at HTO HPO
    obtain ⟨t, r⟩ := P
    have HR := hide hr
    clear hr hP
    go_enter Try.func13, Try.ntmps13
    go_wp2
    go_loopw [3, 13] (MRel l w) (fun a i wr => l.length - (intOf i).toNat)
    case atStart => exact ⟨0, -1, by omega, rfl, rfl, by omega, by omega, rfl, Below.refl _ _⟩
    case round =>
      obtain ⟨k, last, hk, rfl, rfl, h1, h2, hmr, hbel⟩ := hrel
      have hmr' := hide hmr
      clear hmr
      have hz := hbel.size
      by_cases hlt : k < l.length
      · obtain ⟨b, o, rfl, hb, c0, c1⟩ := (HR.out.below hbel).pair hlt
        have hd := mrFrom_drop l k hlt last
        rcases btw_cases l[k].1 (last + 1) 1000000 with ⟨hB, hb3, hb4⟩ | ⟨hB, hb3⟩
        · rw [hB, if_pos rfl] at hd
          have hd' := hide hd
          clear hd
          have hB' := hide hB
          clear hB
          go_wp2_with (go_at_call 15; refine (between_to _ _ _ true _ hB'.out).mono ?_; rintro e w' ⟨rfl, rfl⟩)
          go_roundw
          case rel => exact ⟨k+1, l[k].1, by omega, by go_num, rfl, by omega, by omega, by rw [← hd'.out, hmr'.out], hbel.alloc hbel.size _⟩
          case measure => simp [intOf]; omega
        · rw [hB, if_neg (by simp)] at hd
          have HP := hide (h3f.out (by rw [← hmr'.out, hd]))
          clear hd
          have hB' := hide hB
          clear hB hb3
          go_wp2_with (go_at_call 15; refine (between_to _ _ _ false _ hB'.out).mono ?_; rintro e w' ⟨rfl, rfl⟩)
          go_ret
          exact ⟨by rw [HP.out]; rfl, hbel.alloc hbel.size _⟩
      · have HP := hide (HPO.out (by rw [← hmr'.out, mrFrom_end _ _ hlt]))
        have hkp : Kp w wr := hbel
        cases r with
        | true =>
          go_wp2_with fail
          refine (HTO.out _ (HR.out.kp hkp)).mono ?_
          rintro e w1 ⟨p1, rfl, _, hb1⟩
          go_wp2
          go_ret
          exact ⟨by rw [HP.out]; rfl, (hkp.trans hb1).bel⟩
        | false =>
          go_wp2_with fail
          refine (HTO.out _ (HR.out.kp hkp)).mono ?_
          rintro e w1 ⟨p1, rfl, _, hb1⟩
          go_wp2
          go_ret
          exact ⟨by rw [HP.out]; rfl, (hkp.trans hb1).bel⟩
end Go.Proofs.Ytcpponjknmkfaaa
