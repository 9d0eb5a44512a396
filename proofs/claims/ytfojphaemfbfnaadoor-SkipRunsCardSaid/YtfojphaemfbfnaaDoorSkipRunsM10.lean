/-
  plain.within, hedgref.Between, hedgref.MapRight, plain.Check: what they answer. Conditions: the list reads as l (RD).
  Plain laws on lists of pairs whose keys rise. No program. Conditions: none.
-/
import Derived.Test.YtfojphaemfbfnaaDoorSkipRunsM1

namespace Go.Proofs.YtfojphaemfbfnaaDoor
open Go.ChangeShapes Go.WideShapes Go.ChangeAt Go.RowKit
set_option linter.unusedVariables false
set_option linter.unusedSimpArgs false

def btw (n lo hi : Int) : Bool := decide (lo ≤ n ∧ n ≤ hi)
theorem btw_iff (n lo hi : Int) : btw n lo hi = true ↔ lo ≤ n ∧ n ≤ hi := by simp [btw]
theorem btw_f_iff (n lo hi : Int) : btw n lo hi = false ↔ ¬ (lo ≤ n ∧ n ≤ hi) := by simp [btw]
theorem btw_cases (n lo hi : Int) : (btw n lo hi = true ∧ lo ≤ n ∧ n ≤ hi) ∨ (btw n lo hi = false ∧ (n < lo ∨ hi < n)) := by
  by_cases h : lo ≤ n ∧ n ≤ hi
  · exact .inl ⟨(btw_iff _ _ _).2 h, h⟩
  · exact .inr ⟨(btw_f_iff _ _ _).2 h, by omega⟩

theorem between_any (n lo hi : Int) (w : World) :
    Calls Tryd.prog 16 #[.int .i64 n, .int .i64 lo, .int .i64 hi] w fun e w' => e = .returned (.bool (btw n lo hi)) ∧ w = w' := by
  by_cases h1 : lo ≤ n
  · by_cases h2 : n ≤ hi
    · go_enter Tryd.func16, Tryd.ntmps16
      go_wp2
      go_ret
      exact ⟨by simp [btw]; omega, rfl⟩
    · go_enter Tryd.func16, Tryd.ntmps16
      go_wp2
      go_ret
      exact ⟨by simp [btw]; omega, rfl⟩
  · go_enter Tryd.func16, Tryd.ntmps16
    go_wp2
    go_ret
    exact ⟨by simp [btw]; omega, rfl⟩
theorem between_to (n lo hi : Int) (b : Bool) (w : World) (h : btw n lo hi = b) :
    Calls Tryd.prog 16 #[.int .i64 n, .int .i64 lo, .int .i64 hi] w fun e w' => e = .returned (.bool b) ∧ w = w' := by
  have := between_any n lo hi w
  rwa [h] at this
theorem within_any (n lo hi : Int) (w : World) :
    Calls Tryd.prog 58 #[.int .i64 n, .int .i64 lo, .int .i64 hi] w fun e w' => e = .returned (.bool (btw n lo hi)) ∧ w = w' := by
  by_cases h1 : lo ≤ n
  · by_cases h2 : n ≤ hi
    · go_enter Tryd.func58, Tryd.ntmps58
      go_wp2
      go_ret
      exact ⟨by simp [btw]; omega, rfl⟩
    · go_enter Tryd.func58, Tryd.ntmps58
      go_wp2
      go_ret
      exact ⟨by simp [btw]; omega, rfl⟩
  · go_enter Tryd.func58, Tryd.ntmps58
    go_wp2
    go_ret
    exact ⟨by simp [btw]; omega, rfl⟩
theorem within_to (n lo hi : Int) (b : Bool) (w : World) (h : btw n lo hi = b) :
    Calls Tryd.prog 58 #[.int .i64 n, .int .i64 lo, .int .i64 hi] w fun e w' => e = .returned (.bool b) ∧ w = w' := by
  have := within_any n lo hi w
  rwa [h] at this
def mrFrom (last : Int) : List IP → Int
  | [] => 0
  | p :: t => if btw p.1 (last + 1) 1000000 then mrFrom p.1 t else 3
def mapRight (l : List IP) : Int := if l.length > 200 then 2 else mrFrom (-1) l
theorem mrFrom_drop (l : List IP) (k : Nat) (h : k < l.length) (last : Int) : mrFrom last (l.drop k) = if btw l[k].1 (last + 1) 1000000 then mrFrom l[k].1 (l.drop (k+1)) else 3 := by
  rw [List.drop_eq_getElem_cons h, mrFrom]
theorem mrFrom_end (l : List IP) (k : Nat) (h : ¬ k < l.length) (last : Int) : mrFrom last (l.drop k) = 0 := by
  rw [List.drop_of_length_le (by omega)]; rfl

def MRel (l : List IP) (w : World) (v i : Value) (wr : World) : Prop :=
  ∃ (k : Nat) (last : Int), k ≤ l.length ∧ i = .int .i64 k ∧ v = .int .i64 last ∧ -1 ≤ last ∧ last ≤ 1000000 ∧ mrFrom last (l.drop k) = mrFrom (-1) l ∧ Below w.heap.size w wr

theorem mapRight_len (l : List IP) (h : mapRight l = 0) : l.length ≤ 200 := by
  unfold mapRight at h
  split at h
  · omega
  · omega

def CRel (l : List IP) (w : World) (i : Value) (wr : World) : Prop :=
  ∃ (k : Nat) (last : Int), k ≤ l.length ∧ i = .int .i64 k ∧ -1 ≤ last ∧ last ≤ 1000000 ∧ (k = 0 → last = -1) ∧ (∀ h : k - 1 < l.length, 0 < k → last = l[k-1].1 ∧ 0 ≤ last) ∧ mrFrom last (l.drop k) = mrFrom (-1) l ∧ Below w.heap.size w wr

set_option maxHeartbeats 400000 in
theorem check_any (l : List IP) (v : Value) (w : World) (hr : RD w ePair v l) :
    Calls Tryd.prog 56 #[v] w (Ret (.int .i64 (mapRight l)) w) := by
  obtain ⟨A, c, rfl, hc, hm⟩ := hr.shape
  by_cases hlen : l.length > 200
  · go_enter Tryd.func56, Tryd.ntmps56
    go_wp2
    go_ret
    exact ⟨by simp [mapRight, hlen], Below.refl _ _⟩
  · have hres : Hid (mapRight l = mrFrom (-1) l) := hide (by simp [mapRight, hlen])
    have HR := hide hr
    clear hr
    go_enter Tryd.func56, Tryd.ntmps56
    go_wp2
    go_loopw [10] (CRel l w) (fun i wr => l.length - (intOf i).toNat)
    case atStart => exact ⟨0, -1, by omega, rfl, by omega, by omega, fun _ => rfl, fun _ h => by omega, rfl, Below.refl _ _⟩
    case round =>
      obtain ⟨k, last, hk, rfl, h1, h2, h3, h4, hmr, hbel⟩ := hrel
      have hmr' := hide hmr
      clear hmr
      have hz := hbel.size
      by_cases hlt : k < l.length
      · obtain ⟨b, o, rfl, hb, c0, c1⟩ := (HR.out.below hbel).pair hlt
        have hd := mrFrom_drop l k hlt last
        rcases btw_cases l[k].1 0 1000000 with ⟨hB, hb3, hb4⟩ | ⟨hB, hb3⟩
        · have hB' := hide hB
          clear hB
          by_cases hk0 : k = 0
          · have hl : last = -1 := h3 hk0
            have hd1 : btw l[k].1 (last + 1) 1000000 = true := (btw_iff _ _ _).2 ⟨by omega, hb4⟩
            rw [hd1, if_pos rfl] at hd
            have hd' := hide hd
            have hg : decide (0 < k) = false := by simp; omega
            have hl' := hide hl
            have hk0' := hide hk0
            clear hd hd1 h3 h4 hl hk0
            go_wp2_with fail
            go_quiet ((go_at_call 58; exact Calls.quiet_of_same ((within_to _ _ _ true _ hB'.out).mono fun _ _ h => ⟨h.1, h.2.symm⟩)))
            go_wp2
            go_roundw
            case rel => exact ⟨k+1, l[k].1, by omega, by go_num, by omega, by omega, fun h => by omega, fun _ _ => ⟨rfl, hb3⟩, by rw [← hd'.out, hmr'.out], (by repeat' (first | exact Below.refl _ _ | (with_reducible assumption) | apply Below.drew | apply below_drewN | apply Below.alloc | apply Below.setCell)
                                                                                                                                                                all_goals (first | omega | (simp; omega) | (simp; done)))⟩
            case measure => simp [intOf]; omega
          · obtain ⟨hl, hl0⟩ := h4 (by omega) (by omega)
            obtain ⟨b2, o2, e2, _, c2, _⟩ := (HR.out.below hbel).pair (k := k - 1) (by omega)
            injection e2 with e2
            injection e2 with e3 e4
            subst e3 e4
            have hg : decide (0 < k) = true := by simp; omega
            have hw1 : IntKind.i64.wrap ((k : Int) - 1) = (k : Int) - 1 := IntWalk.i64_in _ (by omega)
            have hw2 : (0 : Int) ≤ (k : Int) - 1 := by omega
            have hw3 : (k : Int) - 1 < (l.length : Int) := by omega
            have hw4 : ((k : Int) - 1).toNat = k - 1 := by omega
            by_cases hge : l[k].1 ≤ l[k-1].1
            · have hd1 : btw l[k].1 (last + 1) 1000000 = false := (btw_f_iff _ _ _).2 (by omega)
              rw [hd1, if_neg (by simp)] at hd
              have hd' := hide hd
              have hl' := hide hl
              clear hd hd1 h3 h4 hl hk0
              go_wp2_with fail
              go_quiet ((go_at_call 58; exact Calls.quiet_of_same ((within_to _ _ _ true _ hB'.out).mono fun _ _ h => ⟨h.1, h.2.symm⟩)))
              go_wp2
              go_ret
              exact ⟨by rw [hres.out, ← hmr'.out, hd'.out]; rfl, (by repeat' (first | exact Below.refl _ _ | (with_reducible assumption) | apply Below.drew | apply below_drewN | apply Below.alloc | apply Below.setCell)
                                                                     all_goals (first | omega | (simp; omega) | (simp; done)))⟩
            · have hd1 : btw l[k].1 (last + 1) 1000000 = true := (btw_iff _ _ _).2 ⟨by omega, hb4⟩
              rw [hd1, if_pos rfl] at hd
              have hd' := hide hd
              have hl' := hide hl
              clear hd hd1 h3 h4 hl hk0
              go_wp2_with fail
              go_quiet ((go_at_call 58; exact Calls.quiet_of_same ((within_to _ _ _ true _ hB'.out).mono fun _ _ h => ⟨h.1, h.2.symm⟩)))
              go_wp2
              go_roundw
              case rel => exact ⟨k+1, l[k].1, by omega, by go_num, by omega, by omega, fun h => by omega, fun _ _ => ⟨rfl, hb3⟩, by rw [← hd'.out, hmr'.out], (by repeat' (first | exact Below.refl _ _ | (with_reducible assumption) | apply Below.drew | apply below_drewN | apply Below.alloc | apply Below.setCell)
                                                                                                                                                                  all_goals (first | omega | (simp; omega) | (simp; done)))⟩
              case measure => simp [intOf]; omega
        · have hd1 : btw l[k].1 (last + 1) 1000000 = false := (btw_f_iff _ _ _).2 (by omega)
          rw [hd1, if_neg (by simp)] at hd
          have hd' := hide hd
          have hB' := hide hB
          clear hd hd1 h3 h4 hB hb3
          go_wp2_with fail
          go_quiet ((go_at_call 58; exact Calls.quiet_of_same ((within_to _ _ _ false _ hB'.out).mono fun _ _ h => ⟨h.1, h.2.symm⟩)))
          go_wp2
          go_ret
          exact ⟨by rw [hres.out, ← hmr'.out, hd'.out]; rfl, (by repeat' (first | exact Below.refl _ _ | (with_reducible assumption) | apply Below.drew | apply below_drewN | apply Below.alloc | apply Below.setCell)
                                                                 all_goals (first | omega | (simp; omega) | (simp; done)))⟩
      · go_wp2
        go_ret
        exact ⟨by rw [hres.out, ← hmr'.out, mrFrom_end _ _ hlt]; rfl, hbel⟩
end Go.Proofs.YtfojphaemfbfnaaDoor
namespace Go.Proofs.YtfojphaemfbfnaaDoor
open Go.ChangeShapes Go.WideShapes Go.ChangeAt Go.RowKit
set_option linter.unusedVariables false
set_option linter.unusedSimpArgs false

theorem mrFrom_01 : ∀ (l : List IP) (last : Int), mrFrom last l = 0 ∨ mrFrom last l = 3
  | [], _ => .inl rfl
  | p :: t, last => by
    unfold mrFrom
    split
    · exact mrFrom_01 t p.1
    · exact .inr rfl
theorem mrFrom_cons {p : IP} {t : List IP} {last : Int} (h : mrFrom last (p :: t) = 0) : last < p.1 ∧ p.1 ≤ 1000000 ∧ mrFrom p.1 t = 0 := by
  unfold mrFrom at h
  split at h
  · rename_i hb
    have := (btw_iff _ _ _).1 hb
    exact ⟨by omega, this.2, h⟩
  · omega
theorem mrFrom_gt : ∀ (l : List IP) (last : Int), mrFrom last l = 0 → ∀ x ∈ l, last < x.1
  | [], _, _, x, hx => by cases hx
  | p :: t, last, h, x, hx => by
    obtain ⟨h1, h2, h3⟩ := mrFrom_cons h
    rcases List.mem_cons.1 hx with rfl | hx
    · exact h1
    · have := mrFrom_gt t p.1 h3 x hx; omega
theorem mrFrom_append : ∀ (a b : List IP) (last : Int), mrFrom last a = 0 → (∀ l2, (∀ x ∈ a, x.1 ≤ l2) → last ≤ l2 → (a = [] → l2 = last) → (∀ x, a.getLast? = some x → l2 = x.1) → mrFrom l2 b = 0) → mrFrom last (a ++ b) = 0
  | [], b, last, _, h => by simpa using h last (by simp) (by omega) (fun _ => rfl) (by simp)
  | p :: t, b, last, ha, h => by
    obtain ⟨h1, h2, h3⟩ := mrFrom_cons ha
    rw [List.cons_append, mrFrom, if_pos ((btw_iff _ _ _).2 ⟨by omega, h2⟩)]
    refine mrFrom_append t b p.1 h3 fun l2 g1 g2 g3 g4 => ?_
    refine h l2 (fun x hx => ?_) (by omega) (by simp) (fun x hx => ?_)
    · rcases List.mem_cons.1 hx with rfl | hx
      · exact g2
      · exact g1 x hx
    · cases t with
      | nil => simp at hx; subst hx; exact g3 rfl
      | cons q t => exact g4 x (by simpa [List.getLast?_cons_cons] using hx)
theorem mrFrom_more {b : List IP} {l1 l2 : Int} (h : mrFrom l1 b = 0) (h2 : ∀ x ∈ b, l2 < x.1) : mrFrom l2 b = 0 := by
  cases b with
  | nil => rfl
  | cons p t =>
    obtain ⟨g1, g2, g3⟩ := mrFrom_cons h
    have := h2 p (by simp)
    rw [mrFrom, if_pos ((btw_iff _ _ _).2 ⟨by omega, g2⟩), g3]
theorem mapRight_from (l : List IP) (h : mapRight l = 0) : mrFrom (-1) l = 0 := by
  unfold mapRight at h
  split at h
  · omega
  · exact h

theorem mrFrom_keys : ∀ (l m : List IP) (last : Int), l.map Prod.fst = m.map Prod.fst → mrFrom last l = mrFrom last m
  | [], [], _, _ => rfl
  | [], _ :: _, _, h => by simp at h
  | _ :: _, [], _, h => by simp at h
  | p :: t, q :: u, last, h => by
    simp only [List.map_cons, List.cons.injEq] at h
    rw [mrFrom, mrFrom, h.1, mrFrom_keys t u q.1 h.2]
theorem mapRight_keys (l m : List IP) (h : l.map Prod.fst = m.map Prod.fst) : mapRight l = mapRight m := by
  have hl : l.length = m.length := by simpa using congrArg List.length h
  rw [mapRight, mapRight, hl, mrFrom_keys l m _ h]
theorem mrFrom_rise : ∀ (l : List IP) (last : Int), mrFrom last l = 0 → ∀ i j (hi : i < l.length) (hj : j < l.length), i < j → l[i].1 < l[j].1
  | p :: t, last, h, 0, j + 1, hi, hj, _ => by
    obtain ⟨_, _, h3⟩ := mrFrom_cons h
    simp only [List.getElem_cons_zero, List.getElem_cons_succ]
    exact mrFrom_gt t p.1 h3 _ (List.getElem_mem _)
  | p :: t, last, h, i + 1, j + 1, hi, hj, hij => by
    obtain ⟨_, _, h3⟩ := mrFrom_cons h
    simp only [List.getElem_cons_succ]
    exact mrFrom_rise t p.1 h3 i j (by simpa using hi) (by simpa using hj) (by omega)
  | _, _, _, 0, 0, _, _, h => by omega
  | _, _, _, i + 1, 0, _, _, h => by omega
theorem mrFrom_le6 : ∀ (l : List IP) (last : Int), mrFrom last l = 0 → ∀ x ∈ l, x.1 ≤ 1000000
  | [], _, _, x, hx => by cases hx
  | p :: t, last, h, x, hx => by
    obtain ⟨h1, h2, h3⟩ := mrFrom_cons h
    rcases List.mem_cons.1 hx with rfl | hx
    · exact h2
    · exact mrFrom_le6 t p.1 h3 x hx
theorem mapRight_rise (l : List IP) (h : mapRight l = 0) (i j : Nat) (hi : i < l.length) (hj : j < l.length) (hij : i < j) : l[i].1 < l[j].1 := mrFrom_rise l (-1) (mapRight_from l h) i j hi hj hij
theorem mapRight_in (l : List IP) (h : mapRight l = 0) (x : IP) (hx : x ∈ l) : 0 ≤ x.1 ∧ x.1 ≤ 1000000 :=
  ⟨by have := mrFrom_gt l (-1) (mapRight_from l h) x hx; omega, mrFrom_le6 l (-1) (mapRight_from l h) x hx⟩
end Go.Proofs.YtfojphaemfbfnaaDoor
