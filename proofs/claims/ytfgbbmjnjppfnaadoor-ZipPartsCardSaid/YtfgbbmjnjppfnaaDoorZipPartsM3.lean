/-
  plain.within, hedgref.Between, hedgref.MapRight, plain.Check: what they answer. Conditions: the list reads as l (RD).
  shape.top, shape.parents, shape.read, shape.Parents: what they answer. Conditions: the list reads as l (RD).
  shape.walk: what it appends. Conditions: the list reads as l (RD), the variable holds a slice of the call's own (OB).
  shape.part, shape.Of: what they answer. Conditions: the list reads as l (RD); of part: the variable holds a slice of the call's own (OB).
  shape.Of: what it answers. Conditions: the list reads as l (RD).
  shape.read, shape.Parents: what they answer. Conditions: the list reads as l (RD).
-/
import Derived.Test.YtfgbbmjnjppfnaaDoorZipPartsM1
import Derived.Test.YtfgbbmjnjppfnaaDoorZipPartsM2

namespace Go.Proofs.YtfgbbmjnjppfnaaDoor
open Go.ChangeShapes Go.WideShapes Go.ChangeAt Go.RowKit
set_option linter.unusedVariables false
set_option linter.unusedSimpArgs false

def btw (n lo hi : Int) : Bool := decide (lo ≤ n ∧ n ≤ hi)
theorem btw_iff (n lo hi : Int) : btw n lo hi = true ↔ lo ≤ n ∧ n ≤ hi := by simp [btw]
theorem btw_f_iff (n lo hi : Int) : btw n lo hi = false ↔ ¬ (lo ≤ n ∧ n ≤ hi) := by simp [btw]
theorem btw_cases (n lo hi : Int) : (btw n lo hi = true ∧ lo ≤ n ∧ n ≤ hi) ∨ (btw n lo hi = false ∧ (n < lo ∨ hi < n)) := by
  by_cases h : lo ≤ n ∧ n ≤ hi
  · exact .inl ⟨(btw_iff _ _ _).2 h, h⟩
  · exact .inr ⟨(btw_f_iff _ _ _).2 h, by omega⟩

theorem between_any (n lo hi : Int) (w : World) :
    Calls Tryd.prog 12 #[.int .i64 n, .int .i64 lo, .int .i64 hi] w fun e w' => e = .returned (.bool (btw n lo hi)) ∧ w = w' := by
  by_cases h1 : lo ≤ n
  · by_cases h2 : n ≤ hi
    · go_enter Tryd.func12, Tryd.ntmps12
      go_wp2
      go_ret
      exact ⟨by simp [btw]; omega, rfl⟩
    · go_enter Tryd.func12, Tryd.ntmps12
      go_wp2
      go_ret
      exact ⟨by simp [btw]; omega, rfl⟩
  · go_enter Tryd.func12, Tryd.ntmps12
    go_wp2
    go_ret
    exact ⟨by simp [btw]; omega, rfl⟩
theorem between_to (n lo hi : Int) (b : Bool) (w : World) (h : btw n lo hi = b) :
    Calls Tryd.prog 12 #[.int .i64 n, .int .i64 lo, .int .i64 hi] w fun e w' => e = .returned (.bool b) ∧ w = w' := by
  have := between_any n lo hi w
  rwa [h] at this
theorem within_any (n lo hi : Int) (w : World) :
    Calls Tryd.prog 76 #[.int .i64 n, .int .i64 lo, .int .i64 hi] w fun e w' => e = .returned (.bool (btw n lo hi)) ∧ w = w' := by
  by_cases h1 : lo ≤ n
  · by_cases h2 : n ≤ hi
    · go_enter Tryd.func76, Tryd.ntmps76
      go_wp2
      go_ret
      exact ⟨by simp [btw]; omega, rfl⟩
    · go_enter Tryd.func76, Tryd.ntmps76
      go_wp2
      go_ret
      exact ⟨by simp [btw]; omega, rfl⟩
  · go_enter Tryd.func76, Tryd.ntmps76
    go_wp2
    go_ret
    exact ⟨by simp [btw]; omega, rfl⟩
theorem within_to (n lo hi : Int) (b : Bool) (w : World) (h : btw n lo hi = b) :
    Calls Tryd.prog 76 #[.int .i64 n, .int .i64 lo, .int .i64 hi] w fun e w' => e = .returned (.bool b) ∧ w = w' := by
  have := within_any n lo hi w
  rwa [h] at this
def mrFrom (last : Int) : List IP → Int
  | [] => 0
  | p :: t => if btw p.1 (last + 1) 1000000 then mrFrom p.1 t else 3
def mapRight (l : List IP) : Int := if l.length > 200 then 2 else mrFrom (-1) l
theorem mrFrom_drop (l : List IP) (k : Nat) (h : k < l.length) (last : Int) : mrFrom last (l.drop k) = if btw l[k].1 (last + 1) 1000000 then mrFrom l[k].1 (l.drop (k+1)) else 3 := by
  rw [List.drop_eq_getElem_cons h, mrFrom]
theorem mrFrom_end (l : List IP) (k : Nat) (h : ¬ k < l.length) (last : Int) : mrFrom last (l.drop k) = 0 := by
  rw [List.drop_of_length_le (by omega)]; rfl

def MRel (l : List IP) (w : World) (v i : Value) (wr : World) : Prop :=
  ∃ (k : Nat) (last : Int), k ≤ l.length ∧ i = .int .i64 k ∧ v = .int .i64 last ∧ -1 ≤ last ∧ last ≤ 1000000 ∧ mrFrom last (l.drop k) = mrFrom (-1) l ∧ Below w.heap.size w wr

theorem mapRight_len (l : List IP) (h : mapRight l = 0) : l.length ≤ 200 := by
  unfold mapRight at h
  split at h
  · omega
  · omega

def CRel (l : List IP) (w : World) (i : Value) (wr : World) : Prop :=
  ∃ (k : Nat) (last : Int), k ≤ l.length ∧ i = .int .i64 k ∧ -1 ≤ last ∧ last ≤ 1000000 ∧ (k = 0 → last = -1) ∧ (∀ h : k - 1 < l.length, 0 < k → last = l[k-1].1 ∧ 0 ≤ last) ∧ mrFrom last (l.drop k) = mrFrom (-1) l ∧ Below w.heap.size w wr

set_option maxHeartbeats 400000 in
theorem check_any (l : List IP) (v : Value) (w : World) (hr : RD w ePair v l) :
    Calls Tryd.prog 70 #[v] w (Ret (.int .i64 (mapRight l)) w) := by
  obtain ⟨A, c, rfl, hc, hm⟩ := hr.shape
  by_cases hlen : l.length > 200
  · go_enter Tryd.func70, Tryd.ntmps70
    go_wp2
    go_ret
    exact ⟨by simp [mapRight, hlen], Below.refl _ _⟩
  · have hres : Hid (mapRight l = mrFrom (-1) l) := hide (by simp [mapRight, hlen])
    have HR := hide hr
    clear hr
    go_enter Tryd.func70, Tryd.ntmps70
    go_wp2
    go_loopw [10] (CRel l w) (fun i wr => l.length - (intOf i).toNat)
    case atStart => exact ⟨0, -1, by omega, rfl, by omega, by omega, fun _ => rfl, fun _ h => by omega, rfl, Below.refl _ _⟩
    case round =>
      obtain ⟨k, last, hk, rfl, h1, h2, h3, h4, hmr, hbel⟩ := hrel
      have hmr' := hide hmr
      clear hmr
      have hz := hbel.size
      by_cases hlt : k < l.length
      · obtain ⟨b, o, rfl, hb, c0, c1⟩ := (HR.out.below hbel).pair hlt
        have hd := mrFrom_drop l k hlt last
        rcases btw_cases l[k].1 0 1000000 with ⟨hB, hb3, hb4⟩ | ⟨hB, hb3⟩
        · have hB' := hide hB
          clear hB
          by_cases hk0 : k = 0
          · have hl : last = -1 := h3 hk0
            have hd1 : btw l[k].1 (last + 1) 1000000 = true := (btw_iff _ _ _).2 ⟨by omega, hb4⟩
            rw [hd1, if_pos rfl] at hd
            have hd' := hide hd
            have hg : decide (0 < k) = false := by simp; omega
            have hl' := hide hl
            have hk0' := hide hk0
            clear hd hd1 h3 h4 hl hk0
            go_wp2_with fail
            go_quiet ((go_at_call 76; exact Calls.quiet_of_same ((within_to _ _ _ true _ hB'.out).mono fun _ _ h => ⟨h.1, h.2.symm⟩)))
            go_wp2
            go_roundw
            case rel => exact ⟨k+1, l[k].1, by omega, by go_num, by omega, by omega, fun h => by omega, fun _ _ => ⟨rfl, hb3⟩, by rw [← hd'.out, hmr'.out], (by repeat' (first | exact Below.refl _ _ | (with_reducible assumption) | apply Below.drew | apply below_drewN | apply Below.alloc | apply Below.setCell)
                                                                                                                                                                all_goals (first | omega | (simp; omega) | (simp; done)))⟩
            case measure => simp [intOf]; omega
          · obtain ⟨hl, hl0⟩ := h4 (by omega) (by omega)
            obtain ⟨b2, o2, e2, _, c2, _⟩ := (HR.out.below hbel).pair (k := k - 1) (by omega)
            injection e2 with e2
            injection e2 with e3 e4
            subst e3 e4
            have hg : decide (0 < k) = true := by simp; omega
            have hw1 : IntKind.i64.wrap ((k : Int) - 1) = (k : Int) - 1 := IntWalk.i64_in _ (by omega)
            have hw2 : (0 : Int) ≤ (k : Int) - 1 := by omega
            have hw3 : (k : Int) - 1 < (l.length : Int) := by omega
            have hw4 : ((k : Int) - 1).toNat = k - 1 := by omega
            by_cases hge : l[k].1 ≤ l[k-1].1
            · have hd1 : btw l[k].1 (last + 1) 1000000 = false := (btw_f_iff _ _ _).2 (by omega)
              rw [hd1, if_neg (by simp)] at hd
              have hd' := hide hd
              have hl' := hide hl
              clear hd hd1 h3 h4 hl hk0
              go_wp2_with fail
              go_quiet ((go_at_call 76; exact Calls.quiet_of_same ((within_to _ _ _ true _ hB'.out).mono fun _ _ h => ⟨h.1, h.2.symm⟩)))
              go_wp2
              go_ret
              exact ⟨by rw [hres.out, ← hmr'.out, hd'.out]; rfl, (by repeat' (first | exact Below.refl _ _ | (with_reducible assumption) | apply Below.drew | apply below_drewN | apply Below.alloc | apply Below.setCell)
                                                                     all_goals (first | omega | (simp; omega) | (simp; done)))⟩
            · have hd1 : btw l[k].1 (last + 1) 1000000 = true := (btw_iff _ _ _).2 ⟨by omega, hb4⟩
              rw [hd1, if_pos rfl] at hd
              have hd' := hide hd
              have hl' := hide hl
              clear hd hd1 h3 h4 hl hk0
              go_wp2_with fail
              go_quiet ((go_at_call 76; exact Calls.quiet_of_same ((within_to _ _ _ true _ hB'.out).mono fun _ _ h => ⟨h.1, h.2.symm⟩)))
              go_wp2
              go_roundw
              case rel => exact ⟨k+1, l[k].1, by omega, by go_num, by omega, by omega, fun h => by omega, fun _ _ => ⟨rfl, hb3⟩, by rw [← hd'.out, hmr'.out], (by repeat' (first | exact Below.refl _ _ | (with_reducible assumption) | apply Below.drew | apply below_drewN | apply Below.alloc | apply Below.setCell)
                                                                                                                                                                  all_goals (first | omega | (simp; omega) | (simp; done)))⟩
              case measure => simp [intOf]; omega
        · have hd1 : btw l[k].1 (last + 1) 1000000 = false := (btw_f_iff _ _ _).2 (by omega)
          rw [hd1, if_neg (by simp)] at hd
          have hd' := hide hd
          have hB' := hide hB
          clear hd hd1 h3 h4 hB hb3
          go_wp2_with fail
          go_quiet ((go_at_call 76; exact Calls.quiet_of_same ((within_to _ _ _ false _ hB'.out).mono fun _ _ h => ⟨h.1, h.2.symm⟩)))
          go_wp2
          go_ret
          exact ⟨by rw [hres.out, ← hmr'.out, hd'.out]; rfl, (by repeat' (first | exact Below.refl _ _ | (with_reducible assumption) | apply Below.drew | apply below_drewN | apply Below.alloc | apply Below.setCell)
                                                                 all_goals (first | omega | (simp; omega) | (simp; done)))⟩
      · go_wp2
        go_ret
        exact ⟨by rw [hres.out, ← hmr'.out, mrFrom_end _ _ hlt]; rfl, hbel⟩
end Go.Proofs.YtfgbbmjnjppfnaaDoor
namespace Go.Proofs.YtfgbbmjnjppfnaaDoor
open Go.ChangeShapes Go.WideShapes Go.ChangeAt Go.RowKit
set_option linter.unusedVariables false
set_option linter.unusedSimpArgs false

/-- The place of the first least depth of so many spots, and whether it is alone. -/
def topF (l : List IP) : Nat → Nat → Nat → Bool → Nat × Bool
  | 0, _, a, al => (a, al)
  | n + 1, k, a, al => if gv l k < gv l a then topF l n (k + 1) k true else if gv l k = gv l a then topF l n (k + 1) a false else topF l n (k + 1) a al
def topS (l : List IP) (lo hi : Nat) : Nat × Bool := topF l (hi - (lo + 1)) (lo + 1) lo true
theorem topF_in (l : List IP) (lo hi : Nat) : ∀ n k a al, lo ≤ a → a < hi → k + n ≤ hi → lo ≤ k → lo ≤ (topF l n k a al).1 ∧ (topF l n k a al).1 < hi
  | 0, k, a, al, h1, h2, _, _ => ⟨h1, h2⟩
  | n + 1, k, a, al, h1, h2, h3, h4 => by
    unfold topF
    split
    · exact topF_in l lo hi n (k + 1) k true h4 (by omega) (by omega) (by omega)
    · split
      · exact topF_in l lo hi n (k + 1) a false h1 h2 (by omega) (by omega)
      · exact topF_in l lo hi n (k + 1) a al h1 h2 (by omega) (by omega)
theorem topS_in (l : List IP) (lo hi : Nat) (h : lo < hi) : lo ≤ (topS l lo hi).1 ∧ (topS l lo hi).1 < hi := topF_in l lo hi _ _ _ _ (Nat.le_refl _) h (by omega) (by omega)

def TopRel (l : List IP) (lo hi : Nat) (w : World) (av alv iv : Value) (wr : World) : Prop :=
  ∃ (k a : Nat) (al : Bool), k ≤ hi ∧ a < hi ∧ iv = .int .i64 k ∧ av = .int .i64 a ∧ alv = .bool al ∧ topF l (hi - k) k a al = topS l lo hi ∧ ∃ n, wr = w.drewN n

set_option maxHeartbeats 1000000 in
theorem top_any (l : List IP) (v : Value) (lo hi : Nat) (w : World) (hr : RD w ePair v l) (h1 : lo < hi) (h2 : hi ≤ l.length) :
    Calls Tryd.prog 81 #[v, .int .i64 (lo : Int), .int .i64 (hi : Int)] w (Drew (.tuple #[.int .i64 ((topS l lo hi).1 : Nat), .bool (topS l lo hi).2]) w) := by
  obtain ⟨A, c, rfl, hc, hm⟩ := hr.shape
  have HR := hide hr
  clear hr
  have b1 : (lo : Int) + 1 ≤ (hi : Int) := by omega
  have b2 : (hi : Int) ≤ 9223372036854775807 := by omega
  go_enter Tryd.func81, Tryd.ntmps81
  go_wp2
  go_loopw [8, 9, 10] (TopRel l lo hi w) (fun _ _ i _ => hi - (intOf i).toNat)
  case atStart => exact ⟨lo + 1, lo, true, by omega, by omega, by go_num, rfl, rfl, rfl, 0, rfl⟩
  case round =>
    obtain ⟨k, a, al, hk, ha, rfl, rfl, rfl, htop, n, rfl⟩ := hrel
    have HT := hide htop
    clear htop
    by_cases hlt : k < hi
    · obtain ⟨b, o, rfl, hb, c0, c1⟩ := (HR.out).pair (k := k) (by omega)
      obtain ⟨b', o', e1, _, d0, d1⟩ := (HR.out).pair (k := a) (by omega)
      injection e1 with e1
      injection e1 with e2 e3
      subst e2 e3
      have hst : Hid (topF l (hi - k) k a al = if gv l k < gv l a then topF l (hi - (k + 1)) (k + 1) k true else if gv l k = gv l a then topF l (hi - (k + 1)) (k + 1) a false else topF l (hi - (k + 1)) (k + 1) a al) :=
        hide (by rw [show hi - k = (hi - (k + 1)) + 1 from by omega, topF])
      have hg1 := gv_eq l k (by omega)
      have hg2 := gv_eq l a (by omega)
      have b3 : (k : Int) < (l.length : Int) := by omega
      have b4 : (a : Int) < (l.length : Int) := by omega
      have b5 : (0 : Int) ≤ (k : Int) := by omega
      have b6 : (0 : Int) ≤ (a : Int) := by omega
      rcases Int.lt_trichotomy l[k].2 l[a].2 with hd | hd | hd
      · have hn : Hid (topF l (hi - (k + 1)) (k + 1) k true = topS l lo hi) := hide (by rw [← HT.out, hst.out, if_pos (by rw [hg1, hg2]; exact hd)])
        clear hg1 hg2
        go_wp2_with fail
        go_quiet (fail)
        go_wp2
        go_roundw
        case rel => exact ⟨k + 1, k, true, by omega, by omega, by go_num, rfl, rfl, hn.out, _, rfl⟩
        case measure => simp [intOf]; omega
      · have hn : Hid (topF l (hi - (k + 1)) (k + 1) a false = topS l lo hi) := hide (by rw [← HT.out, hst.out, if_neg (by rw [hg1, hg2]; omega), if_pos (by rw [hg1, hg2]; exact hd)])
        have hq1 : decide (l[k].2 < l[a].2) = false := by simp; omega
        have hq2 : (l[k].2 == l[a].2) = true := by simp; omega
        clear hg1 hg2 hd
        go_wp2_with fail
        go_quiet (fail)
        go_wp2_with fail
        go_quiet (fail)
        go_wp2
        go_roundw
        case rel => exact ⟨k + 1, a, false, by omega, by omega, by go_num, rfl, rfl, hn.out, _, rfl⟩
        case measure => simp [intOf]; omega
      · have hn : Hid (topF l (hi - (k + 1)) (k + 1) a al = topS l lo hi) := hide (by rw [← HT.out, hst.out, if_neg (by rw [hg1, hg2]; omega), if_neg (by rw [hg1, hg2]; omega)])
        have hq1 : decide (l[k].2 < l[a].2) = false := by simp; omega
        have hq2 : (l[k].2 == l[a].2) = false := by simp; omega
        clear hg1 hg2 hd
        go_wp2_with fail
        go_quiet (fail)
        go_wp2_with fail
        go_quiet (fail)
        go_wp2
        go_roundw
        case rel => exact ⟨k + 1, a, al, by omega, by omega, by go_num, rfl, rfl, hn.out, _, rfl⟩
        case measure => simp [intOf]; omega
    · have hn : Hid (((a : Nat), al) = topS l lo hi) := hide (by rw [← HT.out, show hi - k = 0 from by omega]; rfl)
      go_wp2
      go_ret2
      exact ⟨by rw [← hn.out]; rfl, _, rfl⟩

/-- The tree of places of so many spots, from a depth on. -/
def ptR (l : List IP) (lo hi : Nat) (d : Int) : Option PT :=
  if h : lo < hi then
    have := topS_in l lo hi h
    if (topS l lo hi).2 = true ∧ gv l (topS l lo hi).1 = d then
      match ptR l lo (topS l lo hi).1 (d + 1), ptR l ((topS l lo hi).1 + 1) hi (d + 1) with
      | some a, some b => some (.node (topS l lo hi).1 a b)
      | _, _ => none
    else none
  else some .nil
termination_by hi - lo
theorem ptR_nil (l : List IP) (lo hi : Nat) (d : Int) (h : ¬ lo < hi) : ptR l lo hi d = some .nil := by rw [ptR, dif_neg h]
theorem ptR_node (l : List IP) (lo hi : Nat) (d : Int) (h : lo < hi) (at_ : Nat) (ht : topS l lo hi = (at_, true)) (hd : gv l at_ = d) :
    ptR l lo hi d = match ptR l lo at_ (d + 1), ptR l (at_ + 1) hi (d + 1) with
      | some a, some b => some (.node at_ a b)
      | _, _ => none := by
  rw [ptR, dif_pos h]
  simp only [ht, hd, and_self, if_true]
theorem ptR_none (l : List IP) (lo hi : Nat) (d : Int) (h : lo < hi) (hn : ¬ ((topS l lo hi).2 = true ∧ gv l (topS l lo hi).1 = d)) : ptR l lo hi d = none := by
  rw [ptR, dif_pos h]
  simp only [if_neg hn]
theorem ptR_size (l : List IP) (lo hi : Nat) (d : Int) (t : PT) (hlh : lo ≤ hi) (h : ptR l lo hi d = some t) : t.size = hi - lo := by
  by_cases h0 : lo < hi
  · have ht := topS_in l lo hi h0
    by_cases h1 : (topS l lo hi).2 = true ∧ gv l (topS l lo hi).1 = d
    · rw [ptR_node l lo hi d h0 (topS l lo hi).1 (by rw [← h1.1]) h1.2] at h
      cases ha : ptR l lo (topS l lo hi).1 (d + 1) with
      | none => rw [ha] at h; simp at h
      | some a =>
        cases hb : ptR l ((topS l lo hi).1 + 1) hi (d + 1) with
        | none => rw [ha, hb] at h; simp at h
        | some b =>
          rw [ha, hb] at h
          simp only [Option.some.injEq] at h
          subst h
          have h2 := ptR_size l lo (topS l lo hi).1 (d + 1) a ht.1 ha
          have h3 := ptR_size l ((topS l lo hi).1 + 1) hi (d + 1) b (by omega) hb
          simp only [PT.size]
          omega
    · rw [ptR_none l lo hi d h0 h1] at h
      cases h
  · rw [ptR_nil l lo hi d h0] at h
    injection h with h
    subst h
    simp [PT.size]; omega
termination_by hi - lo

def PPost (l : List IP) (g lo hi : Nat) (above d : Int) (out : List Int) (r : Bool) (w : World) (e : Ending) (w' : World) : Prop :=
  ∃ out' : List Int, e = .returned (.bool r) ∧ AR w' g 3 eInt out' ∧ out'.length = out.length ∧ Kg g w w' ∧ (∀ j, (j < lo ∨ hi ≤ j) → out'[j]? = out[j]?) ∧
    ∀ t, ptR l lo hi d = some t → ∀ j, j < hi - lo → out'[lo + j]? = (t.pars above)[j]?

set_option maxRecDepth 100000 in
set_option maxHeartbeats 1000000 in
theorem parents_any (l : List IP) (v : Value) (g : Nat) (hl : l.length ≤ 1000) (hvg : 0 < l.length → v.ownBlock ≠ some g) (n : Nat) : ∀ (lo hi : Nat) (above d : Int) (out : List Int) (r : Bool) (w : World), hi - lo ≤ n → lo ≤ hi → hi ≤ l.length → 0 ≤ d → d + n ≤ 1000000 →
    RD w ePair v l → AR w g 3 eInt out → out.length = l.length → (ptR l lo hi d).isSome = r →
    Calls Tryd.prog 69 #[v, .int .i64 (lo : Int), .int .i64 (hi : Int), .int .i64 above, .int .i64 d, .slice (some ⟨g, 0, none⟩) out.length out.length] w (PPost l g lo hi above d out r w) := by
  induction n with
  | zero =>
    intro lo hi above d out r w h1 h2 h3 h4 h5 hr ha hol hres
    obtain rfl : lo = hi := by omega
    have hpt := ptR_nil l lo lo d (by omega)
    rw [hpt] at hres
    obtain rfl : true = r := hres
    have HPT := hide hpt
    have HA := hide ha
    clear hpt hr ha hol hvg
    go_enter Tryd.func69, Tryd.ntmps69
    go_wp2
    go_ret
    exact ⟨out, rfl, HA.out, rfl, Kg.refl _ _, fun _ _ => rfl, fun t ht j hj => by omega⟩
  | succ n ih =>
    intro lo hi above d out r w h1 h2 h3 h4 h5 hr ha hol hres
    by_cases hlt : lo < hi
    · have hne : ((lo : Int) == (hi : Int)) = false := by simp; omega
      have htin := topS_in l lo hi hlt
      obtain ⟨⟨at_, al⟩, htop⟩ : ∃ p, p = topS l lo hi := ⟨_, rfl⟩
      rw [← htop] at htin
      have HTC := hide (fun w h => top_any l v lo hi w h hlt h3)
      rw [← htop] at HTC
      simp only at htin HTC
      obtain ⟨hi1, hi2⟩ := htin
      have HR := hide hr
      have HA := hide ha
      have HIH := hide ih
      have HVG := hide hvg
      clear hr ha ih hvg
      cases al with
      | false =>
        have hpt := ptR_none l lo hi d hlt (by rw [← htop]; simp)
        rw [hpt] at hres
        obtain rfl : false = r := hres
        have HPT := hide hpt
        clear hpt hol htop
        go_enter Tryd.func69, Tryd.ntmps69
        go_wp2_with (go_at_call 81; refine (HTC.out _ HR.out).mono ?_; rintro e w1 ⟨rfl, m, rfl⟩)
        go_ret
        exact ⟨out, rfl, HA.out, rfl, Kg.of (Kp.refl _).drewN, fun _ _ => rfl, fun t ht => by rw [HPT.out] at ht; cases ht⟩
      | true =>
        obtain ⟨A, c, rfl, hc, hm⟩ := HR.out.shape
        have hatl : at_ < l.length := by omega
        obtain ⟨b, o, rfl, hb, c0, c1⟩ := HR.out.pair (k := at_) hatl
        have hgv := gv_eq l at_ hatl
        have b1 : (at_ : Int) < (l.length : Int) := by omega
        by_cases hd : l[at_].2 = d
        · have hpt := ptR_node l lo hi d hlt at_ htop.symm (by rw [hgv, hd])
          have HD := hide hd
          have hnd : (l[at_].2 != d) = false := by simp [hd]
          clear hd hgv htop
          have HPT := hide hpt
          clear hpt
          have hw : IntKind.i64.wrap (d + 1) = d + 1 := IntWalk.i64_in _ (by omega)
          obtain ⟨x0, y0⟩ : ∃ x, w.cell? ⟨g, at_, none⟩ = some x := ⟨_, HA.out.int (by omega)⟩
          have f0 : w.frozen? ⟨g, at_, none⟩ = false := HA.out.frozen _
          have hgw := HA.out.lt
          have b2 : (at_ : Int) < (out.length : Int) := by omega
          have b3 : (out.length : Int) ≤ 1000 := by omega
          have HOL := hide hol
          clear hol
          have hsl : (out.set at_ above).length = out.length := by simp
          have HC1 := hide (fun r W (h : Kg g w W) (h2 : AR W g 3 eInt (out.set at_ above)) hr => HIH.out lo at_ at_ (d + 1) (out.set at_ above) r W (by omega) (by omega) (by omega) (by omega) (by omega) (HR.out.kg HVG.out h) h2 (by rw [hsl, HOL.out]) hr)
          have HC2 := hide (fun r W (out1 : List Int) (h0 : out1.length = out.length) (h : Kg g w W) (h2 : AR W g 3 eInt out1) hr => HIH.out (at_ + 1) hi at_ (d + 1) out1 r W (by omega) (by omega) (by omega) (by omega) (by omega) (HR.out.kg HVG.out h) h2 (by rw [h0, HOL.out]) hr)
          rw [hsl] at HC1
          have HSL := hide hsl
          clear hsl
          have tn : ((at_ : Int) + 1).toNat = at_ + 1 := by omega
          cases hpa : ptR l lo at_ (d + 1) with
          | none =>
            have hpn : ptR l lo hi d = none := by rw [HPT.out, hpa]
            rw [hpn] at hres
            obtain rfl : false = r := hres
            have HPN := hide hpn
            have HPA := hide hpa
            clear hpn hpa
            go_enter Tryd.func69, Tryd.ntmps69
            go_wp2_with (go_at_call 81; refine (HTC.out _ HR.out).mono ?_; rintro e w1 ⟨rfl, m, rfl⟩)
            refine (HC1.out false _ (Kg.of (Kp.refl w).drewN).set (HA.out.drewN.set above) (by rw [HPA.out]; rfl)).mono ?_
            rintro e w2 ⟨out1, rfl, ha1, hl1, hk1, hs1, ht1⟩
            have HA1 := hide ha1
            have HS1 := hide hs1
            have HL1 := hide hl1
            clear ha1 hl1 hs1 ht1
            go_wp2
            go_ret
            refine ⟨out1, rfl, HA1.out, by rw [HL1.out, HSL.out], (Kg.of (Kp.refl w).drewN).set.trans hk1, fun j hj => ?_, fun t ht => by rw [HPN.out] at ht; cases ht⟩
            rw [HS1.out j (by omega), List.getElem?_set_ne (by omega)]
          | some ta =>
            have hsa := ptR_size l lo at_ (d + 1) ta hi1 hpa
            cases hpb : ptR l (at_ + 1) hi (d + 1) with
            | none =>
              have hpn : ptR l lo hi d = none := by rw [HPT.out, hpa, hpb]
              rw [hpn] at hres
              obtain rfl : false = r := hres
              have HPN := hide hpn
              have HPA := hide hpa
              have HPB := hide hpb
              clear hpn hpa hpb hsa
              go_enter Tryd.func69, Tryd.ntmps69
              go_wp2_with (go_at_call 81; refine (HTC.out _ HR.out).mono ?_; rintro e w1 ⟨rfl, m, rfl⟩)
              refine (HC1.out true _ (Kg.of (Kp.refl w).drewN).set (HA.out.drewN.set above) (by rw [HPA.out]; rfl)).mono ?_
              rintro e w2 ⟨out1, rfl, ha1, hl1, hk1, hs1, ht1⟩
              have HA1 := hide ha1
              have HS1 := hide hs1
              have hk1' : Kg g w w2 := (Kg.of (Kp.refl w).drewN).set.trans hk1
              have hl1' : out1.length = out.length := by rw [hl1, HSL.out]
              have HC := HC2.out false w2 out1 hl1' hk1' HA1.out (by rw [HPB.out]; rfl)
              rw [hl1'] at HC
              have HCH := hide HC
              have HL1 := hide hl1'
              clear ha1 hl1 hs1 ht1 HC hl1'
              go_wp2_with fail
              refine HCH.out.mono ?_
              rintro e w3 ⟨out2, rfl, ha2, hl2, hk2, hs2, ht2⟩
              have HA2 := hide ha2
              have HS2 := hide hs2
              have HL2 := hide hl2
              clear ha2 hl2 hs2 ht2
              go_wp2
              go_ret
              refine ⟨out2, rfl, HA2.out, by rw [HL2.out, HL1.out], hk1'.trans hk2, fun j hj => ?_, fun t ht => by rw [HPN.out] at ht; cases ht⟩
              rw [HS2.out j (by omega), HS1.out j (by omega), List.getElem?_set_ne (by omega)]
            | some tb =>
              have hpn : ptR l lo hi d = some (.node at_ ta tb) := by rw [HPT.out, hpa, hpb]
              rw [hpn] at hres
              obtain rfl : true = r := hres
              have HPN := hide hpn
              have HPA := hide hpa
              have HPB := hide hpb
              have HSA := hide hsa
              clear hpn hpa hpb hsa
              go_enter Tryd.func69, Tryd.ntmps69
              go_wp2_with (go_at_call 81; refine (HTC.out _ HR.out).mono ?_; rintro e w1 ⟨rfl, m, rfl⟩)
              refine (HC1.out true _ (Kg.of (Kp.refl w).drewN).set (HA.out.drewN.set above) (by rw [HPA.out]; rfl)).mono ?_
              rintro e w2 ⟨out1, rfl, ha1, hl1, hk1, hs1, ht1⟩
              have HA1 := hide ha1
              have HS1 := hide hs1
              have HT1 := hide ht1
              have hk1' : Kg g w w2 := (Kg.of (Kp.refl w).drewN).set.trans hk1
              have hl1' : out1.length = out.length := by rw [hl1, HSL.out]
              have HC := HC2.out true w2 out1 hl1' hk1' HA1.out (by rw [HPB.out]; rfl)
              rw [hl1'] at HC
              have HCH := hide HC
              have HL1 := hide hl1'
              clear ha1 hl1 hs1 ht1 HC hl1'
              go_wp2_with fail
              refine HCH.out.mono ?_
              rintro e w3 ⟨out2, rfl, ha2, hl2, hk2, hs2, ht2⟩
              have HA2 := hide ha2
              have HS2 := hide hs2
              have HL2 := hide hl2
              have HT2 := hide ht2
              clear ha2 hl2 hs2 ht2
              go_wp2
              go_ret
              refine ⟨out2, rfl, HA2.out, by rw [HL2.out, HL1.out], hk1'.trans hk2, fun j hj => ?_, fun t ht j hj => ?_⟩
              · rw [HS2.out j (by omega), HS1.out j (by omega), List.getElem?_set_ne (by omega)]
              · rw [HPN.out] at ht
                injection ht with ht
                subst ht
                have hsa := HSA.out
                have hpl := PT.pars_len ta (at_ : Int)
                have h9 := HOL.out
                simp only [PT.pars, List.append_assoc]
                rcases Nat.lt_trichotomy j (at_ - lo) with hj1 | hj1 | hj1
                · rw [HS2.out _ (by omega), HT1.out ta HPA.out j hj1, List.getElem?_append_left (by omega)]
                · rw [HS2.out _ (by omega), HS1.out _ (by omega), List.getElem?_append_right (by omega), hpl, show j - ta.size = 0 from by omega]
                  rw [show lo + j = at_ from by omega, List.getElem?_set_self (by omega)]
                  rfl
                · have h8 := HT2.out tb HPB.out (j - (at_ + 1 - lo)) (by omega)
                  rw [show at_ + 1 + (j - (at_ + 1 - lo)) = lo + j from by omega] at h8
                  rw [h8, List.getElem?_append_right (by omega), hpl, show j - ta.size = (j - (at_ + 1 - lo)) + 1 from by omega]
                  rfl
        · have hpt := ptR_none l lo hi d hlt (by rw [← htop]; simp only [hgv]; exact fun h => hd h.2)
          rw [hpt] at hres
          obtain rfl : false = r := hres
          have HPT := hide hpt
          have hnd : (l[at_].2 != d) = true := by simp [hd]
          clear hpt hol htop hd hgv
          go_enter Tryd.func69, Tryd.ntmps69
          go_wp2_with (go_at_call 81; refine (HTC.out _ HR.out).mono ?_; rintro e w1 ⟨rfl, m, rfl⟩)
          go_ret
          exact ⟨out, rfl, HA.out, rfl, Kg.of (Kp.refl _).drewN, fun _ _ => rfl, fun t ht => by rw [HPT.out] at ht; cases ht⟩
    · obtain rfl : lo = hi := by omega
      have hpt := ptR_nil l lo lo d (by omega)
      rw [hpt] at hres
      obtain rfl : true = r := hres
      have HPT := hide hpt
      have HA := hide ha
      clear hpt hr ha hol hvg ih
      go_enter Tryd.func69, Tryd.ntmps69
      go_wp2
      go_ret
      exact ⟨out, rfl, HA.out, rfl, Kg.refl _ _, fun _ _ => rfl, fun t ht j hj => by omega⟩
end Go.Proofs.YtfgbbmjnjppfnaaDoor
namespace Go.Proofs.YtfgbbmjnjppfnaaDoor
open Go.ChangeShapes Go.WideShapes Go.ChangeAt Go.RowKit
set_option linter.unusedVariables false
set_option linter.unusedSimpArgs false

def gk (l : List IP) (k : Nat) : Int := (l.getD k (0, 0)).1
theorem gk_eq (l : List IP) (k : Nat) (h : k < l.length) : gk l k = l[k].1 := by simp [gk, List.getD_eq_getElem?_getD, List.getElem?_eq_getElem h]
def walkF (l : List IP) (last : Bool) (lo hi : Nat) : List Int :=
  if h : lo < hi then
    have := topS_in l lo hi h
    if last then walkF l last lo (topS l lo hi).1 ++ walkF l last ((topS l lo hi).1 + 1) hi ++ [gk l (topS l lo hi).1]
    else [gk l (topS l lo hi).1] ++ walkF l last lo (topS l lo hi).1 ++ walkF l last ((topS l lo hi).1 + 1) hi
  else []
termination_by hi - lo
theorem walkF_nil (l : List IP) (last : Bool) (lo hi : Nat) (h : ¬ lo < hi) : walkF l last lo hi = [] := by rw [walkF, dif_neg h]
theorem walkF_last (l : List IP) (lo hi : Nat) (h : lo < hi) : walkF l true lo hi = walkF l true lo (topS l lo hi).1 ++ walkF l true ((topS l lo hi).1 + 1) hi ++ [gk l (topS l lo hi).1] := by rw [walkF, dif_pos h, if_pos rfl]
theorem walkF_first (l : List IP) (lo hi : Nat) (h : lo < hi) : walkF l false lo hi = [gk l (topS l lo hi).1] ++ walkF l false lo (topS l lo hi).1 ++ walkF l false ((topS l lo hi).1 + 1) hi := by rw [walkF, dif_pos h, if_neg (by simp)]
theorem walkF_len (l : List IP) (last : Bool) (lo hi : Nat) : (walkF l last lo hi).length = hi - lo := by
  by_cases h : lo < hi
  · have ht := topS_in l lo hi h
    have h1 := walkF_len l last lo (topS l lo hi).1
    have h2 := walkF_len l last ((topS l lo hi).1 + 1) hi
    cases last
    · rw [walkF_first l lo hi h]; simp [h1, h2]; omega
    · rw [walkF_last l lo hi h]; simp [h1, h2]; omega
  · rw [walkF_nil l last lo hi h]; simp; omega
termination_by hi - lo

theorem seg_split (l : List IP) (lo at_ hi : Nat) (h1 : lo ≤ at_) (h2 : at_ < hi) (h3 : hi ≤ l.length) : (l.take hi).drop lo = (l.take at_).drop lo ++ [l[at_]'(by omega)] ++ (l.take hi).drop (at_ + 1) := by
  apply List.ext_getElem?
  intro j
  by_cases hj : j < hi - lo
  · rw [List.getElem?_drop, List.getElem?_take, if_pos (by omega)]
    rcases Nat.lt_trichotomy (lo + j) at_ with h | h | h
    · rw [List.append_assoc, List.getElem?_append_left (by simp; omega), List.getElem?_drop, List.getElem?_take, if_pos h]
    · rw [List.append_assoc, List.getElem?_append_right (by simp; omega)]
      rw [show j - (List.drop lo (List.take at_ l)).length = 0 from by simp; omega]
      rw [h]; simp
    · rw [List.getElem?_append_right (by simp; omega)]
      simp only [List.length_append, List.length_drop, List.length_take, List.length_singleton]
      rw [List.getElem?_drop, List.getElem?_take, if_pos (by omega)]
      congr 1; omega
  · rw [List.getElem?_eq_none (by simp; omega), List.getElem?_eq_none (by simp; omega)]
end Go.Proofs.YtfgbbmjnjppfnaaDoor
namespace Go.Proofs.YtfgbbmjnjppfnaaDoor
open Go.ChangeShapes Go.WideShapes Go.ChangeAt Go.RowKit
set_option linter.unusedVariables false
set_option linter.unusedSimpArgs false

/-- How many at the head of the list are less. -/
def lessN (x : Int) : List Int → Nat
  | [] => 0
  | y :: t => if y < x then lessN x t + 1 else 0
theorem lessN_le (x : Int) : ∀ l : List Int, lessN x l ≤ l.length
  | [] => Nat.le_refl _
  | y :: t => by
    unfold lessN
    have := lessN_le x t
    split <;> simp <;> omega
theorem lessN_lt (x : Int) : ∀ (l : List Int) (j : Nat) (h : j < l.length), j < lessN x l → l[j] < x
  | y :: t, 0, _, h => by
    unfold lessN at h
    split at h
    · assumption
    · omega
  | y :: t, j + 1, hj, h => by
    unfold lessN at h
    split at h
    · exact lessN_lt x t j (by simpa using hj) (by omega)
    · omega
theorem lessN_at (x : Int) : ∀ (l : List Int) (h : lessN x l < l.length), ¬ l[lessN x l] < x
  | y :: t, h => by
    by_cases hy : y < x
    · have e : lessN x (y :: t) = lessN x t + 1 := by rw [lessN, if_pos hy]
      simp only [e] at h ⊢
      simpa using lessN_at x t (by simpa using h)
    · have e : lessN x (y :: t) = 0 := by rw [lessN, if_neg hy]
      simp only [e]
      simpa using hy
theorem lessN_is (x : Int) (l : List Int) (k : Nat) (hk : k ≤ l.length) (h1 : ∀ j (h : j < l.length), j < k → l[j] < x) (h2 : ∀ h : k < l.length, ¬ l[k] < x) : lessN x l = k := by
  rcases Nat.lt_trichotomy (lessN x l) k with h | h | h
  · exact absurd (h1 _ (by omega) h) (lessN_at x l (by omega))
  · exact h
  · exact absurd (lessN_lt x l k (by have := lessN_le x l; omega) h) (h2 (by have := lessN_le x l; omega))
def partF : Nat → List Int → Int → Bool × List IP
  | 0, _, _ => (true, [])
  | _ + 1, [], _ => (true, [])
  | n + 1, x :: t, d =>
    if (t.drop (lessN x t)).any (fun k => decide (k ≤ x)) then (false, [])
    else if (partF n (t.take (lessN x t)) (d + 1)).1 = false then (false, (partF n (t.take (lessN x t)) (d + 1)).2)
    else ((partF n (t.drop (lessN x t)) (d + 1)).1, (partF n (t.take (lessN x t)) (d + 1)).2 ++ [(x, d)] ++ (partF n (t.drop (lessN x t)) (d + 1)).2)
theorem partF_len : ∀ (n : Nat) (l : List Int) (d : Int), (partF n l d).2.length ≤ l.length
  | 0, _, _ => by simp [partF]
  | n + 1, [], _ => by simp [partF]
  | n + 1, x :: t, d => by
    have h0 := lessN_le x t
    have h1 := partF_len n (t.take (lessN x t)) (d + 1)
    have h2 := partF_len n (t.drop (lessN x t)) (d + 1)
    simp only [List.length_take, List.length_drop] at h1 h2
    unfold partF
    split
    · simp
    · split
      · simp; omega
      · simp; omega
theorem take_at_eq (l : List Int) (k : Nat) (h : k ≤ l.length) (hk : 1 ≤ k) : (l.take k).drop 1 = (l.drop 1).take (k - 1) := by
  rw [List.drop_take]
theorem any_drop_false (x : Int) (t : List Int) (n : Nat) (h : ∀ j (hj : j < t.length), n ≤ j → ¬ t[j] ≤ x) : (t.drop n).any (fun k => decide (k ≤ x)) = false := by
  rw [List.any_eq_false]
  intro y hy
  obtain ⟨j, hj, rfl⟩ := List.getElem_of_mem hy
  rw [List.getElem_drop]
  simp at hj
  have := h (n + j) (by omega) (by omega)
  simpa using this
theorem any_drop_true (x : Int) (t : List Int) (n j : Nat) (hj : j < t.length) (hn : n ≤ j) (h : t[j] ≤ x) : (t.drop n).any (fun k => decide (k ≤ x)) = true := by
  rw [List.any_eq_true]
  refine ⟨t[j], ?_, by simpa using h⟩
  rw [List.mem_drop_iff_getElem]
  exact ⟨j - n, by omega, by simp [show n + (j - n) = j from by omega]⟩

theorem partF_l (n : Nat) (l : List Int) (x : Int) (t : List Int) (d : Int) (hl : l = x :: t) (k : Nat) (hk : 1 ≤ k) (hln : lessN x t = k - 1) :
    partF (n + 1) l d = if (l.drop k).any (fun k => decide (k ≤ x)) then (false, []) else if (partF n ((l.take k).drop 1) (d + 1)).1 = false then (false, (partF n ((l.take k).drop 1) (d + 1)).2)
      else ((partF n (l.drop k) (d + 1)).1, (partF n ((l.take k).drop 1) (d + 1)).2 ++ [(x, d)] ++ (partF n (l.drop k) (d + 1)).2) := by
  subst hl
  obtain ⟨k, rfl⟩ : ∃ k', k = k' + 1 := ⟨k - 1, by omega⟩
  rw [partF, hln]
  simp

theorem lo_cut {B b o o2 n c : Nat} {A : Option Addr} {n' c' : Nat} (h : Lo B (.slice (some ⟨b, o, none⟩) n c)) (hA : ∀ ad, A = some ad → ad.block = b) : Lo B (.slice A n' c') := fun k hk => by
  cases A with
  | none => simp [Value.ownBlock] at hk
  | some ad =>
    have := hA ad rfl
    simp [Value.ownBlock] at hk
    subst hk
    exact h _ (by simp [Value.ownBlock, this])
theorem if_blk {p : Prop} [Decidable p] {b o o2 : Nat} {A : Option Addr} (h : (if p then some (⟨b, o, none⟩ : Addr) else some ⟨b, o2, none⟩) = A) : ∀ ad, A = some ad → ad.block = b := by
  intro ad e
  subst e
  split at h <;> (injection h with h; rw [← h])
def PaPost (B g : Nat) (st e : TypeId) (r : Bool × List IP) (acc : List IP) (w : World) (en : Ending) (w' : World) : Prop := en = .returned (.bool r.1) ∧ OB w' B g st e ePair (acc ++ r.2) ∧ KO g B w w'
def Pa1 (l : List Int) (x : Int) (w : World) (nv : Value) (wr : World) : Prop := ∃ k : Nat, 1 ≤ k ∧ k ≤ l.length ∧ nv = .int .i64 k ∧ (∀ j (h : j < l.length), 1 ≤ j → j < k → l[j] < x) ∧ Kp w wr
def Pa2 (l : List Int) (x : Int) (n : Nat) (w : World) (iv : Value) (wr : World) : Prop := ∃ k : Nat, k ≤ l.length - n ∧ iv = .int .i64 k ∧ (∀ j (h : j < l.length), n ≤ j → j < n + k → ¬ l[j] ≤ x) ∧ Kp w wr

end Go.Proofs.YtfgbbmjnjppfnaaDoor
namespace Go.Proofs.YtfgbbmjnjppfnaaDoor
open Go.ChangeShapes Go.WideShapes Go.ChangeAt Go.RowKit
set_option linter.unusedVariables false
set_option linter.unusedSimpArgs false

def keysIn (l : List Int) : Prop := ∀ k ∈ l, 0 ≤ k ∧ k ≤ 1000000
instance (l : List Int) : Decidable (keysIn l) := by unfold keysIn; infer_instance
def shapeOf (l : List Int) : List IP × Int := if l.length > 200 then ([], 2) else if ¬ keysIn l then ([], 3) else if (partF l.length l 0).1 = false then ([], 3) else ((partF l.length l 0).2, 0)
def KiRel (l : List Int) (w : World) (iv : Value) (wr : World) : Prop := ∃ k : Nat, k ≤ l.length ∧ iv = .int .i64 k ∧ (∀ j (h : j < l.length), j < k → 0 ≤ l[j] ∧ l[j] ≤ 1000000) ∧ w = wr
theorem KO.none {g B : Nat} {w w' a : World} (h : KO g B w w') (hk : Kp a w) (hg : a.heap.size ≤ g) (hv : w.cell? ⟨g, 0, none⟩ = some (.slice none 0 0)) : Kp a w' :=
  h.kp hk hg fun v h1 => by
    rw [hv] at h1
    injection h1 with h1
    subst h1
    intro k hk
    simp [Value.ownBlock] at hk

end Go.Proofs.YtfgbbmjnjppfnaaDoor
namespace Go.Proofs.YtfgbbmjnjppfnaaDoor
open Go.ChangeShapes Go.WideShapes Go.ChangeAt Go.RowKit
set_option linter.unusedVariables false
set_option linter.unusedSimpArgs false

def parOf (l : List IP) : List Int × Int := if mapRight l ≠ 0 then ([], mapRight l) else match ptR l 0 l.length 0 with | some t => (t.pars (-1), 0) | none => ([], 3)
theorem btw_t {n lo hi : Int} (h : lo ≤ n) (h2 : n ≤ hi) : btw n lo hi = true := (btw_iff _ _ _).2 ⟨h, h2⟩
theorem btw_f {n lo hi : Int} (h : n < lo ∨ hi < n) : btw n lo hi = false := (btw_f_iff _ _ _).2 (by omega)
set_option maxRecDepth 100000 in
set_option maxHeartbeats 2000000 in
theorem read_any (l : List IP) (v : Value) (w : World) (hr : RD w ePair v l) : Calls Tryd.prog 46 #[v] w (Ret2 eInt (parOf l) w) := by
  obtain ⟨A, c, rfl, hc, hm⟩ := hr.shape
  by_cases hlen : l.length > 200
  · have hmr : mapRight l = 2 := by rw [mapRight, if_pos hlen]
    have H1 : Hid (parOf l = ([], 2)) := hide (by rw [parOf, hmr, if_pos (by decide)])
    clear hmr
    go_enter Tryd.func46, Tryd.ntmps46
    go_wp2
    go_ret2
    exact ⟨_, by rw [H1.out]; rfl, by rw [H1.out]; exact RD.nil, Below.refl _ _⟩
  · have hres : Hid (mapRight l = mrFrom (-1) l) := hide (by simp [mapRight, hlen])
    have h3f : Hid (mrFrom (-1) l = 3 → parOf l = ([], 3)) := hide (fun h => by rw [parOf, hres.out, h, if_pos (by decide)])
    obtain ⟨C, hC, hmk⟩ := run_mk row_int 0 zero_int l.length (by omega) (by simp [maxLen]; omega)
    have HR := hide hr
    clear hr
    go_enter Tryd.func46, Tryd.ntmps46
    go_wp2
    go_loopw [12] (CRel l w) (fun i wr => l.length - (intOf i).toNat)
    case atStart => exact ⟨0, -1, by omega, rfl, by omega, by omega, fun _ => rfl, fun _ h => by omega, rfl, Below.refl _ _⟩
    case round =>
      obtain ⟨k, last, hk, rfl, h1, h2, h3, h4, hmr, hbel⟩ := hrel
      have hmr' := hide hmr
      clear hmr
      have hz := hbel.size
      by_cases hlt : k < l.length
      · obtain ⟨b, o, rfl, hb, c0, c1⟩ := (HR.out.below hbel).pair hlt
        have hd := mrFrom_drop l k hlt last
        have hkp : Kp w wr := hbel
        by_cases hlo : l[k].1 < 0
        · rw [btw_f (.inl (by omega)), if_neg (by simp)] at hd
          have HP := hide (h3f.out (by rw [← hmr'.out, hd]))
          clear hd h3 h4
          go_wp2_with fail
          go_quiet (fail)
          go_wp2
          go_ret2
          exact ⟨_, by rw [HP.out]; rfl, by rw [HP.out]; exact RD.nil, Kp.bel (by (focus ((repeat (first | (with_reducible assumption) | (with_reducible exact Kp.refl _) | (with_reducible apply Kp.drew) | (with_reducible apply Kp.drewN) | ((with_reducible apply Kp.setR); (focus (first | (with_reducible assumption) | (simp; done) | (simp; omega)))) | (with_reducible apply Kp.alloc) | ((with_reducible apply Kp.call); (with_reducible assumption)) | ((with_reducible apply Kp.app); (with_reducible assumption)))); done)))⟩
        · by_cases hhi : 1000000 < l[k].1
          · rw [btw_f (.inr hhi), if_neg (by simp)] at hd
            have HP := hide (h3f.out (by rw [← hmr'.out, hd]))
            have hg3 : decide (l[k].1 < 0) = false := by simp; omega
            clear hd h3 h4 hlo
            go_wp2_with fail
            go_quiet (fail)
            go_wp2
            go_ret2
            exact ⟨_, by rw [HP.out]; rfl, by rw [HP.out]; exact RD.nil, Kp.bel (by (focus ((repeat (first | (with_reducible assumption) | (with_reducible exact Kp.refl _) | (with_reducible apply Kp.drew) | (with_reducible apply Kp.drewN) | ((with_reducible apply Kp.setR); (focus (first | (with_reducible assumption) | (simp; done) | (simp; omega)))) | (with_reducible apply Kp.alloc) | ((with_reducible apply Kp.call); (with_reducible assumption)) | ((with_reducible apply Kp.app); (with_reducible assumption)))); done)))⟩
          · by_cases hk0 : k = 0
            · have hl : last = -1 := h3 hk0
              rw [btw_t (by omega) (by omega), if_pos rfl] at hd
              have HD := hide hd
              have hg : decide (0 < k) = false := by simp; omega
              have hg2 : decide (1000000 < l[k].1) = false := by simp; omega
              have hg3 : decide (l[k].1 < 0) = false := by simp; omega
              have HL := hide hl
              have HK0 := hide hk0
              have HN : Hid (0 ≤ l[k].1) := hide (by omega)
              have HN2 : Hid (l[k].1 ≤ 1000000) := hide (by omega)
              clear hd h3 h4 hl hk0 hlo hhi
              go_wp2_with fail
              go_quiet (fail)
              go_wp2
              go_roundw
              case rel => exact ⟨k+1, l[k].1, by omega, by go_num, by have := HN.out; omega, HN2.out, fun h => by omega, fun _ _ => ⟨rfl, HN.out⟩, by rw [← HD.out, hmr'.out], Kp.bel (by (focus ((repeat (first | (with_reducible assumption) | (with_reducible exact Kp.refl _) | (with_reducible apply Kp.drew) | (with_reducible apply Kp.drewN) | ((with_reducible apply Kp.setR); (focus (first | (with_reducible assumption) | (simp; done) | (simp; omega)))) | (with_reducible apply Kp.alloc) | ((with_reducible apply Kp.call); (with_reducible assumption)) | ((with_reducible apply Kp.app); (with_reducible assumption)))); done)))⟩
              case measure => simp [intOf]; omega
            · have hkm : k - 1 < l.length := by omega
              obtain ⟨hl, hl0⟩ := h4 hkm (by omega)
              obtain ⟨b2, o2, e2, _, c2, _⟩ := (HR.out.below hbel).pair (k := k - 1) hkm
              injection e2 with e2
              injection e2 with e3 e4
              subst e3 e4
              have hg : decide (0 < k) = true := by simp; omega
              have hw1 : IntKind.i64.wrap ((k : Int) - 1) = (k : Int) - 1 := IntWalk.i64_in _ (by omega)
              have hw2 : (0 : Int) ≤ (k : Int) - 1 := by omega
              have hw3 : (k : Int) - 1 < (l.length : Int) := by omega
              have hw4 : ((k : Int) - 1).toNat = k - 1 := by omega
              have hg2 : decide (1000000 < l[k].1) = false := by simp; omega
              have hg3 : decide (l[k].1 < 0) = false := by simp; omega
              by_cases hge : l[k].1 ≤ l[k-1].1
              · rw [btw_f (.inl (by omega)), if_neg (by simp)] at hd
                have HP := hide (h3f.out (by rw [← hmr'.out, hd]))
                clear hd h3 h4 hl hk0 hlo hhi
                go_wp2_with fail
                go_quiet (fail)
                go_wp2
                go_ret2
                exact ⟨_, by rw [HP.out]; rfl, by rw [HP.out]; exact RD.nil, Kp.bel (by (focus ((repeat (first | (with_reducible assumption) | (with_reducible exact Kp.refl _) | (with_reducible apply Kp.drew) | (with_reducible apply Kp.drewN) | ((with_reducible apply Kp.setR); (focus (first | (with_reducible assumption) | (simp; done) | (simp; omega)))) | (with_reducible apply Kp.alloc) | ((with_reducible apply Kp.call); (with_reducible assumption)) | ((with_reducible apply Kp.app); (with_reducible assumption)))); done)))⟩
              · rw [btw_t (by omega) (by omega), if_pos rfl] at hd
                have HD := hide hd
                have HL := hide hl
                have HN : Hid (0 ≤ l[k].1) := hide (by omega)
                have HN2 : Hid (l[k].1 ≤ 1000000) := hide (by omega)
                clear hd h3 h4 hl hk0 hlo hhi
                go_wp2_with fail
                go_quiet (fail)
                go_wp2
                go_roundw
                case rel => exact ⟨k+1, l[k].1, by omega, by go_num, by have := HN.out; omega, HN2.out, fun h => by omega, fun _ _ => ⟨rfl, HN.out⟩, by rw [← HD.out, hmr'.out], Kp.bel (by (focus ((repeat (first | (with_reducible assumption) | (with_reducible exact Kp.refl _) | (with_reducible apply Kp.drew) | (with_reducible apply Kp.drewN) | ((with_reducible apply Kp.setR); (focus (first | (with_reducible assumption) | (simp; done) | (simp; omega)))) | (with_reducible apply Kp.alloc) | ((with_reducible apply Kp.call); (with_reducible assumption)) | ((with_reducible apply Kp.app); (with_reducible assumption)))); done)))⟩
                case measure => simp [intOf]; omega
      · have hmr0 : mrFrom (-1) l = 0 := by rw [← hmr'.out, mrFrom_end _ _ hlt]
        have hpo : parOf l = match ptR l 0 l.length 0 with | some t => (t.pars (-1), 0) | none => ([], 3) := by rw [parOf, hres.out, hmr0]; simp
        have hkp : Kp w wr := hbel
        have hkl : k = l.length := by omega
        have HKL := hide hkl
        have HPO := hide hpo
        clear hmr0 hpo hmr' h3 h4 hkl
        have HRL : Hid ((List.replicate l.length (0 : Int)).length = l.length) := hide (by simp)
        have HCP := hide (fun r (hres : (ptR l 0 l.length 0).isSome = r) (h : AR (wr.alloc (.cells C 3)) wr.heap.size 3 eInt (List.replicate l.length (0 : Int))) (hx : 0 < l.length → (Value.slice A l.length c).ownBlock ≠ some wr.heap.size) =>
          parents_any l (.slice A l.length c) wr.heap.size (by omega) hx 1000 0 l.length (-1) 0 (List.replicate l.length 0) r (wr.alloc (.cells C 3)) (by omega) (by omega) (by omega) (by omega) (by omega) ((HR.out.kp hkp).alloc _) h HRL.out hres)
        rw [HRL.out] at HCP
        simp only [Int.natCast_zero] at HCP
        have hx : Hid (0 < l.length → (Value.slice A l.length c).ownBlock ≠ some wr.heap.size) := hide (fun h0 => by
          obtain ⟨b, o, e, hb, _⟩ := (HR.out.kp hkp).pair h0
          subst e
          intro e
          injection e with e
          simp at e
          omega)
        cases hpt : ptR l 0 l.length 0 with
        | none =>
          have HP : Hid (parOf l = ([], 3)) := hide (by rw [HPO.out, hpt])
          have HPT := hide hpt
          clear hpt
          go_wp2_with fail
          refine (HCP.out false (by rw [HPT.out]; rfl) (AR.made hC) hx.out).mono ?_
          rintro e w2 ⟨out1, rfl, ha1, hl1, hk1, hs1, ht1⟩
          have HA1 := hide ha1
          clear ha1 hl1 hs1 ht1
          go_wp2
          go_ret2
          exact ⟨_, by rw [HP.out]; rfl, by rw [HP.out]; exact RD.nil, (hk1.kp (Kp.alloc hkp) hkp.size).bel⟩
        | some t =>
          have HP : Hid (parOf l = (t.pars (-1), 0)) := hide (by rw [HPO.out, hpt])
          have hsz := ptR_size l 0 l.length 0 t (by omega) hpt
          have HPT := hide hpt
          clear hpt
          go_wp2_with fail
          refine (HCP.out true (by rw [HPT.out]; rfl) (AR.made hC) hx.out).mono ?_
          rintro e w2 ⟨out1, rfl, ha1, hl1, hk1, hs1, ht1⟩
          have he : out1 = t.pars (-1) := by
            have h9 := PT.pars_len t (-1)
            have h10 := HRL.out
            refine List.ext_getElem? fun j => ?_
            by_cases hj : j < l.length
            · have := ht1 t HPT.out j (by omega)
              rwa [Nat.zero_add] at this
            · rw [List.getElem?_eq_none (by omega), List.getElem?_eq_none (by omega)]
          subst he
          have HA1 := hide ha1
          clear ha1 hs1 ht1
          have HL1 : Hid ((t.pars (-1)).length = l.length) := hide (by rw [hl1, HRL.out])
          clear hl1
          go_wp2
          go_ret2
          refine ⟨_, by rw [HP.out]; rfl, ?_, (hk1.kp (Kp.alloc hkp) hkp.size).bel⟩
          rw [HP.out, ← HL1.out]
          exact HA1.out.rd (by rw [HL1.out]; unfold maxLen; omega)
theorem parents_of (l : List IP) (v : Value) (w : World) (hr : RD w ePair v l) : Calls Tryd.prog 31 #[v] w (Ret2 eInt (parOf l) w) := by
  have HR := hide hr
  clear hr
  go_enter Tryd.func31, Tryd.ntmps31
  go_wp2_with fail
  refine (read_any l v w HR.out).mono ?_
  rintro e w1 ⟨v1, rfl, hr1, hb1⟩
  have HR1 := hide hr1
  clear hr1
  go_wp2
  go_ret2
  exact ⟨v1, rfl, HR1.out, hb1⟩
end Go.Proofs.YtfgbbmjnjppfnaaDoor
