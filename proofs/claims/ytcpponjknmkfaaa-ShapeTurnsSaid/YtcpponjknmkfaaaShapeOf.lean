/-
  shape.Of: what it answers. Conditions: the list reads as l (RD).
-/
import Derived.Test.YtcpponjknmkfaaaPart
namespace Go.Proofs.Ytcpponjknmkfaaa
open Go.ChangeShapes Go.WideShapes Go.ChangeAt Go.RowKit
set_option linter.unusedVariables false
set_option linter.unusedSimpArgs false

def keysIn (l : List Int) : Prop := ∀ k ∈ l, 0 ≤ k ∧ k ≤ 1000000
instance (l : List Int) : Decidable (keysIn l) := by unfold keysIn; infer_instance
def shapeOf (l : List Int) : List IP × Int := if l.length > 200 then ([], 2) else if ¬ keysIn l then ([], 3) else if (partF l.length l 0).1 = false then ([], 3) else ((partF l.length l 0).2, 0)
def KiRel (l : List Int) (w : World) (iv : Value) (wr : World) : Prop := ∃ k : Nat, k ≤ l.length ∧ iv = .int .i64 k ∧ (∀ j (h : j < l.length), j < k → 0 ≤ l[j] ∧ l[j] ≤ 1000000) ∧ w = wr
theorem KO.none {g B : Nat} {w w' a : World} (h : KO g B w w') (hk : Kp a w) (hg : a.heap.size ≤ g) (hv : w.cell? ⟨g, 0, none⟩ = some (.slice none 0 0)) : Kp a w' :=
  h.kp hk hg fun v h1 => by
    rw [hv] at h1
    injection h1 with h1
    subst h1
    intro k hk
    simp [Value.ownBlock] at hk

set_option maxRecDepth 100000 in
set_option maxHeartbeats 4000000 in
theorem shapeOf_any (l : List Int) (v : Value) (w : World) (hr : RD w eInt v l) : Calls Try.prog 12 #[v] w (Ret2 ePair (shapeOf l) w) := by
  obtain ⟨A, c, rfl, hc, hm⟩ := hr.shape
  by_cases hlen : l.length > 200
  · have H1 : Hid (shapeOf l = ([], 2)) := hide (by rw [shapeOf, if_pos hlen])
    clear hr
    go_enter Try.func12, Try.ntmps12
    go_wp2
    go_ret2
    exact ⟨_, by rw [H1.out]; rfl, by rw [H1.out]; exact RD.nil, Below.refl _ _⟩
  · have HR := hide hr
    clear hr
    go_enter Try.func12, Try.ntmps12
    go_wp2
    go_loopw [12] (KiRel l w) (fun i wr => l.length - (intOf i).toNat)
    case atStart => exact ⟨0, by omega, rfl, fun j h a => by omega, rfl⟩
    case round =>
      obtain ⟨k, hk, rfl, hall, rfl⟩ := hrel
      have HALL := hide hall
      clear hall
      by_cases hlt : k < l.length
      · obtain ⟨b, o, rfl, hb, c0⟩ := HR.out.int hlt
        obtain ⟨y, hy⟩ : ∃ y, y = l[k] := ⟨_, rfl⟩
        rw [← hy] at c0
        have HY := hide hy
        clear hy
        by_cases h1 : y < 0
        · have H1 : Hid (shapeOf l = ([], 3)) := hide (by rw [shapeOf, if_neg hlen, if_pos]; intro h; have := h l[k] (List.getElem_mem hlt); rw [← HY.out] at this; omega)
          go_wp2
          go_ret2
          exact ⟨_, by rw [H1.out]; rfl, by rw [H1.out]; exact RD.nil, Below.refl _ _⟩
        · by_cases h2 : 1000000 < y
          · have H1 : Hid (shapeOf l = ([], 3)) := hide (by rw [shapeOf, if_neg hlen, if_pos]; intro h; have := h l[k] (List.getElem_mem hlt); rw [← HY.out] at this; omega)
            have d1 : decide (y < 0) = false := by simp; omega
            clear h1
            go_wp2
            go_ret2
            exact ⟨_, by rw [H1.out]; rfl, by rw [H1.out]; exact RD.nil, Below.refl _ _⟩
          · have HN : Hid (∀ j (h : j < l.length), j < k + 1 → 0 ≤ l[j] ∧ l[j] ≤ 1000000) := hide (fun j h a => by
              rcases Nat.lt_or_ge j k with h9 | h9
              · exact HALL.out j h h9
              · have : j = k := by omega
                subst this
                rw [← HY.out]; omega)
            have d1 : decide (y < 0) = false := by simp; omega
            have d2 : decide (1000000 < y) = false := by simp; omega
            clear h1 h2
            go_wp2
            go_roundw
            case rel => exact ⟨k + 1, by omega, by go_num, HN.out, rfl⟩
            case measure => simp [intOf]; omega
      · have hki : keysIn l := fun y hy => by
          obtain ⟨j, hj, rfl⟩ := List.getElem_of_mem hy
          exact HALL.out j hj (by omega)
        have hso : shapeOf l = if (partF l.length l 0).1 = false then ([], 3) else ((partF l.length l 0).2, 0) := by rw [shapeOf, if_neg hlen, if_neg (by simpa using hki)]
        have HC := hide (fun W (hr : RD W eInt (.slice A l.length c) l) ho hb => part_any w.heap.size w.heap.size (Nat.le_refl _) l.length l (.slice A l.length c) 0 [] W (Nat.le_refl _) (by omega) (by omega) (by omega) (by simp; omega) (fun h0 => HR.out.lo h0) hr ho hb)
        obtain ⟨P, hP⟩ : ∃ P, P = partF l.length l 0 := ⟨_, rfl⟩
        rw [← hP] at HC hso
        obtain ⟨r, a⟩ := P
        have HO := hide (OB.new (B := w.heap.size) (st := 22) (e := 41) (E := ePair) w (Nat.le_refl _))
        clear hP hki
        cases r with
        | false =>
          have H1 : Hid (shapeOf l = ([], 3)) := hide (by rw [hso, if_pos rfl])
          clear hso
          go_wp2_with fail
          with_reducible refine (HC.out _ (HR.out.alloc _) HO.out (by simp)).mono ?_
          rintro e w1 ⟨rfl, ho1, hk1⟩
          have k1 := hk1.none (Kp.refl w).alloc (Nat.le_refl _) (by simp [go_sem])
          clear ho1 hk1
          go_wp2
          go_ret2
          exact ⟨_, by rw [H1.out]; rfl, by rw [H1.out]; exact RD.nil, k1.bel⟩
        | true =>
          have H1 : Hid (shapeOf l = (a, 0)) := hide (by rw [hso, if_neg (by simp)])
          clear hso
          go_wp2_with fail
          with_reducible refine (HC.out _ (HR.out.alloc _) HO.out (by simp)).mono ?_
          rintro e w1 ⟨rfl, ho1, hk1⟩
          have k1 := hk1.none (Kp.refl w).alloc (Nat.le_refl _) (by simp [go_sem])
          rw [List.nil_append] at ho1
          obtain ⟨u, hb, hu, hn⟩ := ho1
          have g0 := hb.cell 0
          obtain ⟨A3, N3, c3, rfl⟩ := hu.rd.slice
          have HU := hide hu.rd
          have K1 := hide k1
          clear hk1 hb hu hn k1
          go_wp2
          go_ret2
          exact ⟨_, by rw [H1.out]; rfl, by rw [H1.out]; exact HU.out, K1.out.bel⟩
end Go.Proofs.Ytcpponjknmkfaaa
