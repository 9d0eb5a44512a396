/-
  hedgref.SameSpots, hedgref.SameInts, slices.Equal: what they answer. Conditions: the lists read as l and m (RD).
-/
import Derived.Test.YtcpponjknmkfaaaChk
namespace Go.Proofs.Ytcpponjknmkfaaa
open Go.ChangeShapes Go.WideShapes Go.ChangeAt Go.RowKit
set_option linter.unusedVariables false
set_option linter.unusedSimpArgs false

theorem eq_of_take {α : Type} {l m : List α} (hl : l.length = m.length) (h : ∀ j (h1 : j < l.length) (h2 : j < m.length), l[j] = m[j]) : l = m :=
  List.ext_getElem hl h

def SRel {α : Type} (l m : List α) (w : World) (i : Value) (wr : World) : Prop :=
  ∃ k : Nat, k ≤ l.length ∧ i = .int .i64 k ∧ (∀ j (h1 : j < l.length) (h2 : j < m.length), j < k → l[j] = m[j]) ∧ Below w.heap.size w wr
theorem SRel.on {α : Type} {l m : List α} {w wr' : World} {k : Nat} (h1 : k < l.length) (h2 : k < m.length) (h : ∀ j (h1 : j < l.length) (h2 : j < m.length), j < k → l[j] = m[j]) (he : l[k] = m[k])
    (hb : Below w.heap.size w wr') : SRel l m w (.int .i64 (k + 1 : Nat)) wr' :=
  ⟨k + 1, h1, rfl, fun j a b hj => by
    rcases Nat.lt_or_ge j k with hj' | hj'
    · exact h j a b hj'
    · obtain rfl : j = k := by omega
      exact he, hb⟩

set_option maxHeartbeats 400000 in
theorem sameSpots_any (l m : List IP) (v u : Value) (w : World) (hl : RD w ePair v l) (hm : RD w ePair u m) :
    Calls Try.prog 19 #[v, u] w (Ret (.bool (decide (l = m))) w) := by
  obtain ⟨A, c, rfl, hc, hc'⟩ := hl.shape
  obtain ⟨A2, c2, rfl, hc2, hc2'⟩ := hm.shape
  have HL := hide hl
  have HM := hide hm
  clear hl hm
  by_cases hlen : l.length = m.length
  · have hb : ((l.length : Int) == (m.length : Int)) = true := by simp; omega
    have hn : ((l.length : Int) != (m.length : Int)) = false := by simp; omega
    have hlen' := hide hlen
    have g1 : l.length ≤ m.length := by omega
    have g2 : m.length ≤ l.length := by omega
    clear hlen
    go_enter Try.func19, Try.ntmps19
    go_wp2
    go_loopw [13] (SRel l m w) (fun i wr => l.length - (intOf i).toNat)
    case atStart => exact ⟨0, by omega, rfl, fun _ _ _ h => by omega, Below.refl _ _⟩
    case round =>
      obtain ⟨k, hk, rfl, hall, hbel⟩ := hrel
      have HA := hide hall
      clear hall
      by_cases hlt : k < l.length
      · obtain ⟨b, o, rfl, hb, c0, c1⟩ := (HL.out.below hbel).pair hlt
        obtain ⟨b2, o2, rfl, hb2, d0, d1⟩ := (HM.out.below hbel).pair (k := k) (by omega)
        have hlt2 : k < m.length := by omega
        by_cases he : l[k] = m[k]
        · have e1 : (l[k].1 == m[k].1) = true := by simp [he]
          have e2 : (l[k].2 == m[k].2) = true := by simp [he]
          have he' := hide he
          clear he
          go_wp2_with fail
          go_quiet (fail)
          go_wp2
          go_roundw
          case rel => exact SRel.on hlt hlt2 HA.out he'.out (by repeat' (first | exact Below.refl _ _ | (with_reducible assumption) | apply Below.drew | apply below_drewN | apply Below.alloc | apply Below.setCell)
                                                                all_goals (first | omega | (simp; omega) | (simp; done)))
          case measure => simp [intOf]; omega
        · have hf : decide (l = m) = false := by
            simp only [decide_eq_false_iff_not]
            rintro rfl
            exact he rfl
          have e12 : (l[k].1 == m[k].1 && l[k].2 == m[k].2) = false := by
            rw [Bool.eq_false_iff]
            intro h
            simp only [Bool.and_eq_true, beq_iff_eq] at h
            exact he (Prod.ext h.1 h.2)
          have hf' := hide hf
          clear he hf
          rcases hx : (l[k].1 == m[k].1) with _ | _ <;> rcases hy : (l[k].2 == m[k].2) with _ | _
          all_goals first | (rw [hx, hy] at e12; exact absurd e12 (by decide)) | skip
          all_goals clear e12
          all_goals
            go_wp2_with fail
            go_quiet (fail)
            go_wp2
            go_ret
            exact ⟨by rw [hf'.out]; rfl, (by repeat' (first | exact Below.refl _ _ | (with_reducible assumption) | apply Below.drew | apply below_drewN | apply Below.alloc | apply Below.setCell)
                                             all_goals (first | omega | (simp; omega) | (simp; done)))⟩
      · have ht : decide (l = m) = true := by
          simp only [decide_eq_true_eq]
          exact eq_of_take hlen'.out fun j a b => HA.out j a b (by omega)
        have ht' := hide ht
        clear ht
        go_wp2
        go_ret
        exact ⟨by rw [ht'.out]; rfl, hbel⟩
  · have hb : ((l.length : Int) == (m.length : Int)) = false := by simp; omega
    have hn : ((l.length : Int) != (m.length : Int)) = true := by simp; omega
    go_enter Try.func19, Try.ntmps19
    go_wp2
    go_ret
    exact ⟨by rw [decide_eq_false (fun h => hlen (by rw [h]))]; rfl, Below.refl _ _⟩

theorem sameSpots_to (l m : List IP) (r : Bool) (v u : Value) (w : World) (hl : RD w ePair v l) (hm : RD w ePair u m) (h : decide (l = m) = r) :
    Calls Try.prog 19 #[v, u] w (Ret (.bool r) w) := by
  subst h
  exact sameSpots_any l m v u w hl hm
set_option maxHeartbeats 400000 in
theorem sameInts_any (l m : List Int) (v u : Value) (w : World) (hl : RD w eInt v l) (hm : RD w eInt u m) :
    Calls Try.prog 17 #[v, u] w (Ret (.bool (decide (l = m))) w) := by
  obtain ⟨A, c, rfl, hc, hc'⟩ := hl.shape
  obtain ⟨A2, c2, rfl, hc2, hc2'⟩ := hm.shape
  have HL := hide hl
  have HM := hide hm
  clear hl hm
  by_cases hlen : l.length = m.length
  · have hb : ((l.length : Int) == (m.length : Int)) = true := by simp; omega
    have hn : ((l.length : Int) != (m.length : Int)) = false := by simp; omega
    have hlen' := hide hlen
    have g1 : l.length ≤ m.length := by omega
    have g2 : m.length ≤ l.length := by omega
    clear hlen
    go_enter Try.func17, Try.ntmps17
    go_wp2
    go_loopw [13] (SRel l m w) (fun i wr => l.length - (intOf i).toNat)
    case atStart => exact ⟨0, by omega, rfl, fun _ _ _ h => by omega, Below.refl _ _⟩
    case round =>
      obtain ⟨k, hk, rfl, hall, hbel⟩ := hrel
      have HA := hide hall
      clear hall
      by_cases hlt : k < l.length
      · obtain ⟨b, o, rfl, hb, c0⟩ := (HL.out.below hbel).int hlt
        obtain ⟨b2, o2, rfl, hb2, d0⟩ := (HM.out.below hbel).int (k := k) (by omega)
        have hlt2 : k < m.length := by omega
        by_cases he : l[k] = m[k]
        · have e1 : (l[k] != m[k]) = false := by simp [he]
          have he' := hide he
          clear he
          go_wp2_with fail
          go_quiet (fail)
          go_wp2
          go_roundw
          case rel => exact SRel.on hlt hlt2 HA.out he'.out (by repeat' (first | exact Below.refl _ _ | (with_reducible assumption) | apply Below.drew | apply below_drewN | apply Below.alloc | apply Below.setCell)
                                                                all_goals (first | omega | (simp; omega) | (simp; done)))
          case measure => simp [intOf]; omega
        · have hf : decide (l = m) = false := by
            simp only [decide_eq_false_iff_not]
            rintro rfl
            exact he rfl
          have e1 : (l[k] != m[k]) = true := by simp [he]
          have hf' := hide hf
          clear he hf
          go_wp2_with fail
          go_quiet (fail)
          go_wp2
          go_ret
          exact ⟨by rw [hf'.out]; rfl, (by repeat' (first | exact Below.refl _ _ | (with_reducible assumption) | apply Below.drew | apply below_drewN | apply Below.alloc | apply Below.setCell)
                                           all_goals (first | omega | (simp; omega) | (simp; done)))⟩
      · have ht : decide (l = m) = true := by
          simp only [decide_eq_true_eq]
          exact eq_of_take hlen'.out fun j a b => HA.out j a b (by omega)
        have ht' := hide ht
        clear ht
        go_wp2
        go_ret
        exact ⟨by rw [ht'.out]; rfl, hbel⟩
  · have hb : ((l.length : Int) == (m.length : Int)) = false := by simp; omega
    have hn : ((l.length : Int) != (m.length : Int)) = true := by simp; omega
    go_enter Try.func17, Try.ntmps17
    go_wp2
    go_ret
    exact ⟨by rw [decide_eq_false (fun h => hlen (by rw [h]))]; rfl, Below.refl _ _⟩
theorem sameInts_to (l m : List Int) (r : Bool) (v u : Value) (w : World) (hl : RD w eInt v l) (hm : RD w eInt u m) (h : decide (l = m) = r) :
    Calls Try.prog 17 #[v, u] w (Ret (.bool r) w) := by
  subst h
  exact sameInts_any l m v u w hl hm
set_option maxHeartbeats 400000 in
theorem eqSpots_any (l m : List IP) (v u : Value) (w : World) (hl : RD w ePair v l) (hm : RD w ePair u m) :
    Calls Try.prog 22 #[v, u] w (Ret (.bool (decide (l = m))) w) := by
  obtain ⟨A, c, rfl, hc, hc'⟩ := hl.shape
  obtain ⟨A2, c2, rfl, hc2, hc2'⟩ := hm.shape
  have HL := hide hl
  have HM := hide hm
  clear hl hm
  by_cases hlen : l.length = m.length
  · have hb : ((l.length : Int) == (m.length : Int)) = true := by simp; omega
    have hn : ((l.length : Int) != (m.length : Int)) = false := by simp; omega
    have hlen' := hide hlen
    have g1 : l.length ≤ m.length := by omega
    have g2 : m.length ≤ l.length := by omega
    clear hlen
    go_enter Try.func22, Try.ntmps22
    go_wp2
    go_loopw [13] (SRel l m w) (fun i wr => l.length - (intOf i).toNat)
    case atStart => exact ⟨0, by omega, rfl, fun _ _ _ h => by omega, Below.refl _ _⟩
    case round =>
      obtain ⟨k, hk, rfl, hall, hbel⟩ := hrel
      have HA := hide hall
      clear hall
      by_cases hlt : k < l.length
      · obtain ⟨b, o, rfl, hb, c0, c1⟩ := (HL.out.below hbel).pair hlt
        obtain ⟨b2, o2, rfl, hb2, d0, d1⟩ := (HM.out.below hbel).pair (k := k) (by omega)
        have hlt2 : k < m.length := by omega
        by_cases he : l[k] = m[k]
        · have e1 : (l[k].1 == m[k].1) = true := by simp [he]
          have e2 : (l[k].2 == m[k].2) = true := by simp [he]
          have he' := hide he
          clear he
          go_wp2_with fail
          go_quiet (fail)
          go_wp2
          go_roundw
          case rel => exact SRel.on hlt hlt2 HA.out he'.out (by repeat' (first | exact Below.refl _ _ | (with_reducible assumption) | apply Below.drew | apply below_drewN | apply Below.alloc | apply Below.setCell)
                                                                all_goals (first | omega | (simp; omega) | (simp; done)))
          case measure => simp [intOf]; omega
        · have hf : decide (l = m) = false := by
            simp only [decide_eq_false_iff_not]
            rintro rfl
            exact he rfl
          have e12 : (l[k].1 == m[k].1 && l[k].2 == m[k].2) = false := by
            rw [Bool.eq_false_iff]
            intro h
            simp only [Bool.and_eq_true, beq_iff_eq] at h
            exact he (Prod.ext h.1 h.2)
          have hf' := hide hf
          clear he hf
          rcases hx : (l[k].1 == m[k].1) with _ | _ <;> rcases hy : (l[k].2 == m[k].2) with _ | _
          all_goals first | (rw [hx, hy] at e12; exact absurd e12 (by decide)) | skip
          all_goals clear e12
          all_goals
            go_wp2_with fail
            go_quiet (fail)
            go_wp2
            go_ret
            exact ⟨by rw [hf'.out]; rfl, (by repeat' (first | exact Below.refl _ _ | (with_reducible assumption) | apply Below.drew | apply below_drewN | apply Below.alloc | apply Below.setCell)
                                             all_goals (first | omega | (simp; omega) | (simp; done)))⟩
      · have ht : decide (l = m) = true := by
          simp only [decide_eq_true_eq]
          exact eq_of_take hlen'.out fun j a b => HA.out j a b (by omega)
        have ht' := hide ht
        clear ht
        go_wp2
        go_ret
        exact ⟨by rw [ht'.out]; rfl, hbel⟩
  · have hb : ((l.length : Int) == (m.length : Int)) = false := by simp; omega
    have hn : ((l.length : Int) != (m.length : Int)) = true := by simp; omega
    go_enter Try.func22, Try.ntmps22
    go_wp2
    go_ret
    exact ⟨by rw [decide_eq_false (fun h => hlen (by rw [h]))]; rfl, Below.refl _ _⟩

theorem eqSpots_to (l m : List IP) (r : Bool) (v u : Value) (w : World) (hl : RD w ePair v l) (hm : RD w ePair u m) (h : decide (l = m) = r) :
    Calls Try.prog 22 #[v, u] w (Ret (.bool r) w) := by
  subst h
  exact eqSpots_any l m v u w hl hm
set_option maxHeartbeats 400000 in
theorem eqInts_any (l m : List Int) (v u : Value) (w : World) (hl : RD w eInt v l) (hm : RD w eInt u m) :
    Calls Try.prog 24 #[v, u] w (Ret (.bool (decide (l = m))) w) := by
  obtain ⟨A, c, rfl, hc, hc'⟩ := hl.shape
  obtain ⟨A2, c2, rfl, hc2, hc2'⟩ := hm.shape
  have HL := hide hl
  have HM := hide hm
  clear hl hm
  by_cases hlen : l.length = m.length
  · have hb : ((l.length : Int) == (m.length : Int)) = true := by simp; omega
    have hn : ((l.length : Int) != (m.length : Int)) = false := by simp; omega
    have hlen' := hide hlen
    have g1 : l.length ≤ m.length := by omega
    have g2 : m.length ≤ l.length := by omega
    clear hlen
    go_enter Try.func24, Try.ntmps24
    go_wp2
    go_loopw [13] (SRel l m w) (fun i wr => l.length - (intOf i).toNat)
    case atStart => exact ⟨0, by omega, rfl, fun _ _ _ h => by omega, Below.refl _ _⟩
    case round =>
      obtain ⟨k, hk, rfl, hall, hbel⟩ := hrel
      have HA := hide hall
      clear hall
      by_cases hlt : k < l.length
      · obtain ⟨b, o, rfl, hb, c0⟩ := (HL.out.below hbel).int hlt
        obtain ⟨b2, o2, rfl, hb2, d0⟩ := (HM.out.below hbel).int (k := k) (by omega)
        have hlt2 : k < m.length := by omega
        by_cases he : l[k] = m[k]
        · have e1 : (l[k] != m[k]) = false := by simp [he]
          have he' := hide he
          clear he
          go_wp2_with fail
          go_quiet (fail)
          go_wp2
          go_roundw
          case rel => exact SRel.on hlt hlt2 HA.out he'.out (by repeat' (first | exact Below.refl _ _ | (with_reducible assumption) | apply Below.drew | apply below_drewN | apply Below.alloc | apply Below.setCell)
                                                                all_goals (first | omega | (simp; omega) | (simp; done)))
          case measure => simp [intOf]; omega
        · have hf : decide (l = m) = false := by
            simp only [decide_eq_false_iff_not]
            rintro rfl
            exact he rfl
          have e1 : (l[k] != m[k]) = true := by simp [he]
          have hf' := hide hf
          clear he hf
          go_wp2_with fail
          go_quiet (fail)
          go_wp2
          go_ret
          exact ⟨by rw [hf'.out]; rfl, (by repeat' (first | exact Below.refl _ _ | (with_reducible assumption) | apply Below.drew | apply below_drewN | apply Below.alloc | apply Below.setCell)
                                           all_goals (first | omega | (simp; omega) | (simp; done)))⟩
      · have ht : decide (l = m) = true := by
          simp only [decide_eq_true_eq]
          exact eq_of_take hlen'.out fun j a b => HA.out j a b (by omega)
        have ht' := hide ht
        clear ht
        go_wp2
        go_ret
        exact ⟨by rw [ht'.out]; rfl, hbel⟩
  · have hb : ((l.length : Int) == (m.length : Int)) = false := by simp; omega
    have hn : ((l.length : Int) != (m.length : Int)) = true := by simp; omega
    go_enter Try.func24, Try.ntmps24
    go_wp2
    go_ret
    exact ⟨by rw [decide_eq_false (fun h => hlen (by rw [h]))]; rfl, Below.refl _ _⟩
theorem eqInts_to (l m : List Int) (r : Bool) (v u : Value) (w : World) (hl : RD w eInt v l) (hm : RD w eInt u m) (h : decide (l = m) = r) :
    Calls Try.prog 24 #[v, u] w (Ret (.bool r) w) := by
  subst h
  exact eqInts_any l m v u w hl hm
end Go.Proofs.Ytcpponjknmkfaaa
