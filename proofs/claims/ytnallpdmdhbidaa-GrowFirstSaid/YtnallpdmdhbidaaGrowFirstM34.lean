/-
  Keys that come as a tree tells them make that tree again: the law. No program. Conditions: none.
  hedgkeep.ok: what it answers. Conditions: the list reads as l (RD).
  hedgref.SameSpots, hedgref.SameInts, slices.Equal: what they answer. Conditions: the lists read as l and m (RD).
  hedgkeep.threeSpots: what it answers. Conditions: none.
-/
import Derived.Test.YtnallpdmdhbidaaGrowFirstM25
import Derived.Test.YtnallpdmdhbidaaGrowFirstM33
import Derived.Test.YtnallpdmdhbidaaGrowFirstM3
import Derived.Test.YtnallpdmdhbidaaGrowFirstM8

namespace Go.Proofs.Ytnallpdmdhbidaa
open Go.ChangeShapes Go.WideShapes Go.ChangeAt Go.RowKit
set_option linter.unusedVariables false
set_option linter.unusedSimpArgs false

theorem topo_grow : ∀ (t : T) (F : List Int) (d : Int), Topo t F → (ofT F).spotsBy Prod.fst d = t.spots d
  | .nil, F, d, h => by
    obtain rfl : F = [] := h
    rfl
  | .node k l r, F, d, h => by
    obtain ⟨F', rfl, h1, h2, h3⟩ := h
    rw [ofT_cons k F' h1]
    simp only [MT.spotsBy, T.spots, topo_grow l _ (d + 1) h2, topo_grow r _ (d + 1) h3]
theorem grow_topo (t : T) (F : List Int) (hp : F.Perm (keysT t)) (ht : Topo t F) (hb : Bst t) (hs : t.size ≤ 200) (hk : keysIn (keysT t)) : growOf F = (t.spots 0, 0) := by
  have hr : rightG F = 0 := by
    unfold rightG
    rw [if_neg (by rw [hp.length_eq, keysT_len]; omega), if_neg, if_neg]
    · exact Decidable.not_not.2 (hp.nodup_iff.2 (hb.imp fun h => by omega))
    · exact Decidable.not_not.2 fun k hk' => hk k (hp.mem_iff.1 hk')
  rw [growOf, if_neg (by simp [hr]), topo_grow t F 0 ht]
theorem grow_first (l : List IP) (h : (parOf l).2 = 0) : orderOf l 1 = (told1 (treeOf l 0).1, 0) ∧ orderOf l 3 = (told3 (treeOf l 0).1, 0) ∧ growOf (told1 (treeOf l 0).1) = (l, 0) ∧ growOf (told3 (treeOf l 0).1) = (l, 0) := by
  have hts := (treeOf_spots l h).1
  have ho := order_told l h
  obtain ⟨hl, hm, _⟩ := parOf_len l h
  obtain ⟨t, ht⟩ : ∃ t, t = (treeOf l 0).1 := ⟨_, rfl⟩
  rw [← ht] at hts ho ⊢
  have hkt : keysT t = l.map Prod.fst := by rw [← keysT_spots t 0, hts]
  have hb : Bst t := by
    unfold Bst
    rw [hkt, List.pairwise_map, List.pairwise_iff_getElem]
    intro i j hi hj hij
    exact mapRight_rise l hm i j hi hj hij
  have hk : keysIn (keysT t) := fun k hk => by
    rw [hkt] at hk
    obtain ⟨x, hx, rfl⟩ := List.mem_map.1 hk
    exact mapRight_in l hm x hx
  have hs : t.size ≤ 200 := by rw [← keysT_len, hkt, List.length_map]; exact hl
  refine ⟨by rw [ho 1]; simp, by rw [ho 3]; simp, ?_, ?_⟩
  · rw [grow_topo t _ (told1_perm t) (topo1 t hb) hb hs hk, hts]
  · rw [grow_topo t _ (told3_perm t) (topo_told3 t hb) hb hs hk, hts]
end Go.Proofs.Ytnallpdmdhbidaa
namespace Go.Proofs.Ytnallpdmdhbidaa
open Go.ChangeShapes Go.WideShapes Go.ChangeAt Go.RowKit
set_option linter.unusedVariables false
set_option linter.unusedSimpArgs false

def okL (l : List Int) : Bool := l.all fun e => e == 0
def OkRel (l : List Int) (w : World) (i : Value) (wr : World) : Prop := ∃ k : Nat, k ≤ l.length ∧ i = .int .i64 k ∧ okL (l.drop k) = okL l ∧ w = wr

set_option maxHeartbeats 400000 in
theorem ok_any (l : List Int) (v : Value) (w : World) (hr : RD w eInt v l) : Calls Try.prog 11 #[v] w fun e w' => e = .returned (.bool (okL l)) ∧ w = w' := by
  obtain ⟨A, c, rfl, hc, hm⟩ := hr.shape
  have HR := hide hr
  clear hr
  go_enter Try.func11, Try.ntmps11
  go_wp2
  go_loopw [7] (OkRel l w) (fun i _ => l.length - (intOf i).toNat)
  case atStart => exact ⟨0, by omega, rfl, rfl, rfl⟩
  case round =>
    obtain ⟨k, hk, rfl, hok, rfl⟩ := hrel
    have HO := hide hok
    clear hok
    by_cases hlt : k < l.length
    · obtain ⟨b, o, rfl, hb, c0⟩ := HR.out.int hlt
      have hd : Hid (okL (l.drop k) = (l[k] == 0 && okL (l.drop (k + 1)))) := hide (by rw [List.drop_eq_getElem_cons hlt]; rfl)
      by_cases h0 : l[k] = 0
      · have hn : (l[k] != 0) = false := by simp [h0]
        have hst : Hid (okL (l.drop (k + 1)) = okL l) := hide (by rw [← HO.out, hd.out, h0]; rfl)
        clear h0
        go_wp2
        go_roundw
        case rel => exact ⟨k + 1, by omega, by go_num, hst.out, rfl⟩
        case measure => simp [intOf]; omega
      · have hn : (l[k] != 0) = true := by simp [h0]
        have hst : Hid (okL l = false) := hide (by rw [← HO.out, hd.out]; simp [h0])
        clear h0
        go_wp2
        go_ret
        exact ⟨by rw [hst.out]; rfl, rfl⟩
    · have hst : Hid (okL l = true) := hide (by rw [← HO.out, List.drop_of_length_le (by omega)]; rfl)
      go_wp2
      go_ret
      exact ⟨by rw [hst.out]; rfl, rfl⟩
end Go.Proofs.Ytnallpdmdhbidaa
namespace Go.Proofs.Ytnallpdmdhbidaa
open Go.ChangeShapes Go.WideShapes Go.ChangeAt Go.RowKit
set_option linter.unusedVariables false
set_option linter.unusedSimpArgs false

theorem eq_of_take {α : Type} {l m : List α} (hl : l.length = m.length) (h : ∀ j (h1 : j < l.length) (h2 : j < m.length), l[j] = m[j]) : l = m :=
  List.ext_getElem hl h

def SRel {α : Type} (l m : List α) (w : World) (i : Value) (wr : World) : Prop :=
  ∃ k : Nat, k ≤ l.length ∧ i = .int .i64 k ∧ (∀ j (h1 : j < l.length) (h2 : j < m.length), j < k → l[j] = m[j]) ∧ Below w.heap.size w wr
theorem SRel.on {α : Type} {l m : List α} {w wr' : World} {k : Nat} (h1 : k < l.length) (h2 : k < m.length) (h : ∀ j (h1 : j < l.length) (h2 : j < m.length), j < k → l[j] = m[j]) (he : l[k] = m[k])
    (hb : Below w.heap.size w wr') : SRel l m w (.int .i64 (k + 1 : Nat)) wr' :=
  ⟨k + 1, h1, rfl, fun j a b hj => by
    rcases Nat.lt_or_ge j k with hj' | hj'
    · exact h j a b hj'
    · obtain rfl : j = k := by omega
      exact he, hb⟩

set_option maxHeartbeats 400000 in
theorem sameSpots_any (l m : List IP) (v u : Value) (w : World) (hl : RD w ePair v l) (hm : RD w ePair u m) :
    Calls Try.prog 17 #[v, u] w (Ret (.bool (decide (l = m))) w) := by
  obtain ⟨A, c, rfl, hc, hc'⟩ := hl.shape
  obtain ⟨A2, c2, rfl, hc2, hc2'⟩ := hm.shape
  have HL := hide hl
  have HM := hide hm
  clear hl hm
  by_cases hlen : l.length = m.length
  · have hb : ((l.length : Int) == (m.length : Int)) = true := by simp; omega
    have hn : ((l.length : Int) != (m.length : Int)) = false := by simp; omega
    have hlen' := hide hlen
    have g1 : l.length ≤ m.length := by omega
    have g2 : m.length ≤ l.length := by omega
    clear hlen
    go_enter Try.func17, Try.ntmps17
    go_wp2
    go_loopw [13] (SRel l m w) (fun i wr => l.length - (intOf i).toNat)
    case atStart => exact ⟨0, by omega, rfl, fun _ _ _ h => by omega, Below.refl _ _⟩
    case round =>
      obtain ⟨k, hk, rfl, hall, hbel⟩ := hrel
      have HA := hide hall
      clear hall
      by_cases hlt : k < l.length
      · obtain ⟨b, o, rfl, hb, c0, c1⟩ := (HL.out.below hbel).pair hlt
        obtain ⟨b2, o2, rfl, hb2, d0, d1⟩ := (HM.out.below hbel).pair (k := k) (by omega)
        have hlt2 : k < m.length := by omega
        by_cases he : l[k] = m[k]
        · have e1 : (l[k].1 == m[k].1) = true := by simp [he]
          have e2 : (l[k].2 == m[k].2) = true := by simp [he]
          have he' := hide he
          clear he
          go_wp2_with fail
          go_quiet (fail)
          go_wp2
          go_roundw
          case rel => exact SRel.on hlt hlt2 HA.out he'.out (by repeat' (first | exact Below.refl _ _ | (with_reducible assumption) | apply Below.drew | apply below_drewN | apply Below.alloc | apply Below.setCell)
                                                                all_goals (first | omega | (simp; omega) | (simp; done)))
          case measure => simp [intOf]; omega
        · have hf : decide (l = m) = false := by
            simp only [decide_eq_false_iff_not]
            rintro rfl
            exact he rfl
          have e12 : (l[k].1 == m[k].1 && l[k].2 == m[k].2) = false := by
            rw [Bool.eq_false_iff]
            intro h
            simp only [Bool.and_eq_true, beq_iff_eq] at h
            exact he (Prod.ext h.1 h.2)
          have hf' := hide hf
          clear he hf
          rcases hx : (l[k].1 == m[k].1) with _ | _ <;> rcases hy : (l[k].2 == m[k].2) with _ | _
          all_goals first | (rw [hx, hy] at e12; exact absurd e12 (by decide)) | skip
          all_goals clear e12
          all_goals
            go_wp2_with fail
            go_quiet (fail)
            go_wp2
            go_ret
            exact ⟨by rw [hf'.out]; rfl, (by repeat' (first | exact Below.refl _ _ | (with_reducible assumption) | apply Below.drew | apply below_drewN | apply Below.alloc | apply Below.setCell)
                                             all_goals (first | omega | (simp; omega) | (simp; done)))⟩
      · have ht : decide (l = m) = true := by
          simp only [decide_eq_true_eq]
          exact eq_of_take hlen'.out fun j a b => HA.out j a b (by omega)
        have ht' := hide ht
        clear ht
        go_wp2
        go_ret
        exact ⟨by rw [ht'.out]; rfl, hbel⟩
  · have hb : ((l.length : Int) == (m.length : Int)) = false := by simp; omega
    have hn : ((l.length : Int) != (m.length : Int)) = true := by simp; omega
    go_enter Try.func17, Try.ntmps17
    go_wp2
    go_ret
    exact ⟨by rw [decide_eq_false (fun h => hlen (by rw [h]))]; rfl, Below.refl _ _⟩

theorem sameSpots_to (l m : List IP) (r : Bool) (v u : Value) (w : World) (hl : RD w ePair v l) (hm : RD w ePair u m) (h : decide (l = m) = r) :
    Calls Try.prog 17 #[v, u] w (Ret (.bool r) w) := by
  subst h
  exact sameSpots_any l m v u w hl hm
set_option maxHeartbeats 400000 in
theorem sameInts_any (l m : List Int) (v u : Value) (w : World) (hl : RD w eInt v l) (hm : RD w eInt u m) :
    Calls Try.prog 19 #[v, u] w (Ret (.bool (decide (l = m))) w) := by
  obtain ⟨A, c, rfl, hc, hc'⟩ := hl.shape
  obtain ⟨A2, c2, rfl, hc2, hc2'⟩ := hm.shape
  have HL := hide hl
  have HM := hide hm
  clear hl hm
  by_cases hlen : l.length = m.length
  · have hb : ((l.length : Int) == (m.length : Int)) = true := by simp; omega
    have hn : ((l.length : Int) != (m.length : Int)) = false := by simp; omega
    have hlen' := hide hlen
    have g1 : l.length ≤ m.length := by omega
    have g2 : m.length ≤ l.length := by omega
    clear hlen
    go_enter Try.func19, Try.ntmps19
    go_wp2
    go_loopw [13] (SRel l m w) (fun i wr => l.length - (intOf i).toNat)
    case atStart => exact ⟨0, by omega, rfl, fun _ _ _ h => by omega, Below.refl _ _⟩
    case round =>
      obtain ⟨k, hk, rfl, hall, hbel⟩ := hrel
      have HA := hide hall
      clear hall
      by_cases hlt : k < l.length
      · obtain ⟨b, o, rfl, hb, c0⟩ := (HL.out.below hbel).int hlt
        obtain ⟨b2, o2, rfl, hb2, d0⟩ := (HM.out.below hbel).int (k := k) (by omega)
        have hlt2 : k < m.length := by omega
        by_cases he : l[k] = m[k]
        · have e1 : (l[k] != m[k]) = false := by simp [he]
          have he' := hide he
          clear he
          go_wp2_with fail
          go_quiet (fail)
          go_wp2
          go_roundw
          case rel => exact SRel.on hlt hlt2 HA.out he'.out (by repeat' (first | exact Below.refl _ _ | (with_reducible assumption) | apply Below.drew | apply below_drewN | apply Below.alloc | apply Below.setCell)
                                                                all_goals (first | omega | (simp; omega) | (simp; done)))
          case measure => simp [intOf]; omega
        · have hf : decide (l = m) = false := by
            simp only [decide_eq_false_iff_not]
            rintro rfl
            exact he rfl
          have e1 : (l[k] != m[k]) = true := by simp [he]
          have hf' := hide hf
          clear he hf
          go_wp2_with fail
          go_quiet (fail)
          go_wp2
          go_ret
          exact ⟨by rw [hf'.out]; rfl, (by repeat' (first | exact Below.refl _ _ | (with_reducible assumption) | apply Below.drew | apply below_drewN | apply Below.alloc | apply Below.setCell)
                                           all_goals (first | omega | (simp; omega) | (simp; done)))⟩
      · have ht : decide (l = m) = true := by
          simp only [decide_eq_true_eq]
          exact eq_of_take hlen'.out fun j a b => HA.out j a b (by omega)
        have ht' := hide ht
        clear ht
        go_wp2
        go_ret
        exact ⟨by rw [ht'.out]; rfl, hbel⟩
  · have hb : ((l.length : Int) == (m.length : Int)) = false := by simp; omega
    have hn : ((l.length : Int) != (m.length : Int)) = true := by simp; omega
    go_enter Try.func19, Try.ntmps19
    go_wp2
    go_ret
    exact ⟨by rw [decide_eq_false (fun h => hlen (by rw [h]))]; rfl, Below.refl _ _⟩
theorem sameInts_to (l m : List Int) (r : Bool) (v u : Value) (w : World) (hl : RD w eInt v l) (hm : RD w eInt u m) (h : decide (l = m) = r) :
    Calls Try.prog 19 #[v, u] w (Ret (.bool r) w) := by
  subst h
  exact sameInts_any l m v u w hl hm
set_option maxHeartbeats 400000 in
theorem eqSpots_any (l m : List IP) (v u : Value) (w : World) (hl : RD w ePair v l) (hm : RD w ePair u m) :
    Calls Try.prog 13 #[v, u] w (Ret (.bool (decide (l = m))) w) := by
  obtain ⟨A, c, rfl, hc, hc'⟩ := hl.shape
  obtain ⟨A2, c2, rfl, hc2, hc2'⟩ := hm.shape
  have HL := hide hl
  have HM := hide hm
  clear hl hm
  by_cases hlen : l.length = m.length
  · have hb : ((l.length : Int) == (m.length : Int)) = true := by simp; omega
    have hn : ((l.length : Int) != (m.length : Int)) = false := by simp; omega
    have hlen' := hide hlen
    have g1 : l.length ≤ m.length := by omega
    have g2 : m.length ≤ l.length := by omega
    clear hlen
    go_enter Try.func13, Try.ntmps13
    go_wp2
    go_loopw [13] (SRel l m w) (fun i wr => l.length - (intOf i).toNat)
    case atStart => exact ⟨0, by omega, rfl, fun _ _ _ h => by omega, Below.refl _ _⟩
    case round =>
      obtain ⟨k, hk, rfl, hall, hbel⟩ := hrel
      have HA := hide hall
      clear hall
      by_cases hlt : k < l.length
      · obtain ⟨b, o, rfl, hb, c0, c1⟩ := (HL.out.below hbel).pair hlt
        obtain ⟨b2, o2, rfl, hb2, d0, d1⟩ := (HM.out.below hbel).pair (k := k) (by omega)
        have hlt2 : k < m.length := by omega
        by_cases he : l[k] = m[k]
        · have e1 : (l[k].1 == m[k].1) = true := by simp [he]
          have e2 : (l[k].2 == m[k].2) = true := by simp [he]
          have he' := hide he
          clear he
          go_wp2_with fail
          go_quiet (fail)
          go_wp2
          go_roundw
          case rel => exact SRel.on hlt hlt2 HA.out he'.out (by repeat' (first | exact Below.refl _ _ | (with_reducible assumption) | apply Below.drew | apply below_drewN | apply Below.alloc | apply Below.setCell)
                                                                all_goals (first | omega | (simp; omega) | (simp; done)))
          case measure => simp [intOf]; omega
        · have hf : decide (l = m) = false := by
            simp only [decide_eq_false_iff_not]
            rintro rfl
            exact he rfl
          have e12 : (l[k].1 == m[k].1 && l[k].2 == m[k].2) = false := by
            rw [Bool.eq_false_iff]
            intro h
            simp only [Bool.and_eq_true, beq_iff_eq] at h
            exact he (Prod.ext h.1 h.2)
          have hf' := hide hf
          clear he hf
          rcases hx : (l[k].1 == m[k].1) with _ | _ <;> rcases hy : (l[k].2 == m[k].2) with _ | _
          all_goals first | (rw [hx, hy] at e12; exact absurd e12 (by decide)) | skip
          all_goals clear e12
          all_goals
            go_wp2_with fail
            go_quiet (fail)
            go_wp2
            go_ret
            exact ⟨by rw [hf'.out]; rfl, (by repeat' (first | exact Below.refl _ _ | (with_reducible assumption) | apply Below.drew | apply below_drewN | apply Below.alloc | apply Below.setCell)
                                             all_goals (first | omega | (simp; omega) | (simp; done)))⟩
      · have ht : decide (l = m) = true := by
          simp only [decide_eq_true_eq]
          exact eq_of_take hlen'.out fun j a b => HA.out j a b (by omega)
        have ht' := hide ht
        clear ht
        go_wp2
        go_ret
        exact ⟨by rw [ht'.out]; rfl, hbel⟩
  · have hb : ((l.length : Int) == (m.length : Int)) = false := by simp; omega
    have hn : ((l.length : Int) != (m.length : Int)) = true := by simp; omega
    go_enter Try.func13, Try.ntmps13
    go_wp2
    go_ret
    exact ⟨by rw [decide_eq_false (fun h => hlen (by rw [h]))]; rfl, Below.refl _ _⟩

theorem eqSpots_to (l m : List IP) (r : Bool) (v u : Value) (w : World) (hl : RD w ePair v l) (hm : RD w ePair u m) (h : decide (l = m) = r) :
    Calls Try.prog 13 #[v, u] w (Ret (.bool r) w) := by
  subst h
  exact eqSpots_any l m v u w hl hm
set_option maxHeartbeats 400000 in
theorem eqInts_any (l m : List Int) (v u : Value) (w : World) (hl : RD w eInt v l) (hm : RD w eInt u m) :
    Calls Try.prog 29 #[v, u] w (Ret (.bool (decide (l = m))) w) := by
  obtain ⟨A, c, rfl, hc, hc'⟩ := hl.shape
  obtain ⟨A2, c2, rfl, hc2, hc2'⟩ := hm.shape
  have HL := hide hl
  have HM := hide hm
  clear hl hm
  by_cases hlen : l.length = m.length
  · have hb : ((l.length : Int) == (m.length : Int)) = true := by simp; omega
    have hn : ((l.length : Int) != (m.length : Int)) = false := by simp; omega
    have hlen' := hide hlen
    have g1 : l.length ≤ m.length := by omega
    have g2 : m.length ≤ l.length := by omega
    clear hlen
    go_enter Try.func29, Try.ntmps29
    go_wp2
    go_loopw [13] (SRel l m w) (fun i wr => l.length - (intOf i).toNat)
    case atStart => exact ⟨0, by omega, rfl, fun _ _ _ h => by omega, Below.refl _ _⟩
    case round =>
      obtain ⟨k, hk, rfl, hall, hbel⟩ := hrel
      have HA := hide hall
      clear hall
      by_cases hlt : k < l.length
      · obtain ⟨b, o, rfl, hb, c0⟩ := (HL.out.below hbel).int hlt
        obtain ⟨b2, o2, rfl, hb2, d0⟩ := (HM.out.below hbel).int (k := k) (by omega)
        have hlt2 : k < m.length := by omega
        by_cases he : l[k] = m[k]
        · have e1 : (l[k] != m[k]) = false := by simp [he]
          have he' := hide he
          clear he
          go_wp2_with fail
          go_quiet (fail)
          go_wp2
          go_roundw
          case rel => exact SRel.on hlt hlt2 HA.out he'.out (by repeat' (first | exact Below.refl _ _ | (with_reducible assumption) | apply Below.drew | apply below_drewN | apply Below.alloc | apply Below.setCell)
                                                                all_goals (first | omega | (simp; omega) | (simp; done)))
          case measure => simp [intOf]; omega
        · have hf : decide (l = m) = false := by
            simp only [decide_eq_false_iff_not]
            rintro rfl
            exact he rfl
          have e1 : (l[k] != m[k]) = true := by simp [he]
          have hf' := hide hf
          clear he hf
          go_wp2_with fail
          go_quiet (fail)
          go_wp2
          go_ret
          exact ⟨by rw [hf'.out]; rfl, (by repeat' (first | exact Below.refl _ _ | (with_reducible assumption) | apply Below.drew | apply below_drewN | apply Below.alloc | apply Below.setCell)
                                           all_goals (first | omega | (simp; omega) | (simp; done)))⟩
      · have ht : decide (l = m) = true := by
          simp only [decide_eq_true_eq]
          exact eq_of_take hlen'.out fun j a b => HA.out j a b (by omega)
        have ht' := hide ht
        clear ht
        go_wp2
        go_ret
        exact ⟨by rw [ht'.out]; rfl, hbel⟩
  · have hb : ((l.length : Int) == (m.length : Int)) = false := by simp; omega
    have hn : ((l.length : Int) != (m.length : Int)) = true := by simp; omega
    go_enter Try.func29, Try.ntmps29
    go_wp2
    go_ret
    exact ⟨by rw [decide_eq_false (fun h => hlen (by rw [h]))]; rfl, Below.refl _ _⟩
theorem eqInts_to (l m : List Int) (r : Bool) (v u : Value) (w : World) (hl : RD w eInt v l) (hm : RD w eInt u m) (h : decide (l = m) = r) :
    Calls Try.prog 29 #[v, u] w (Ret (.bool r) w) := by
  subst h
  exact eqInts_any l m v u w hl hm
end Go.Proofs.Ytnallpdmdhbidaa
namespace Go.Proofs.Ytnallpdmdhbidaa
open Go.ChangeShapes Go.WideShapes Go.ChangeAt Go.RowKit
set_option linter.unusedVariables false
set_option linter.unusedSimpArgs false

theorem three_any (w : World) : Calls Try.prog 28 #[] w fun e w' => ∃ v, e = .returned v ∧ RD w' ePair v [(1, 1), (2, 0), (3, 1)] ∧ Kp w w' := by
  go_enter Try.func28, Try.ntmps28
  go_wp2
  go_ret
  exact ⟨_, rfl, RD.block (l := [(1, 1), (2, 0), (3, 1)]) (heap_alloc_new w _) rfl (by simp [maxLen]), (Kp.refl w).alloc⟩
end Go.Proofs.Ytnallpdmdhbidaa
