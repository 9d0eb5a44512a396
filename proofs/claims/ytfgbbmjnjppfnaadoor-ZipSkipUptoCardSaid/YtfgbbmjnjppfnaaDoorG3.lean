/-
  shape.part, shape.Of: what they answer. Conditions: the list reads as l (RD); of part: the variable holds a slice of the call's own (OB).
  shape.Of: what it answers. Conditions: the list reads as l (RD).
  shape.read, shape.Parents: what they answer. Conditions: the list reads as l (RD).
  Plain laws on lists of pairs whose keys rise. No program. Conditions: none.
  Plain laws: what shape.parents makes of the spots of a tree of places. No program. Conditions: none.
  shape.Check, shape.Order (but for way 3), shape.Sum: what they answer. Conditions: the list reads as l (RD).
  Plain laws: what is told node first makes the tree again, and each list that makes a tree is told so. No program. Conditions: none.
  Plain laws: keys, places, spots of a tree that is written (MT). No program. Conditions: none.
  vine.read: what it answers. Conditions: the list reads as l (RD).
-/
import Derived.Test.YtfgbbmjnjppfnaaDoorG2

namespace Go.Proofs.YtfgbbmjnjppfnaaDoor
open Go.ChangeShapes Go.WideShapes Go.ChangeAt Go.RowKit
set_option linter.unusedVariables false
set_option linter.unusedSimpArgs false

/-- How many at the head of the list are less. -/
def lessN (x : Int) : List Int → Nat
  | [] => 0
  | y :: t => if y < x then lessN x t + 1 else 0
theorem lessN_le (x : Int) : ∀ l : List Int, lessN x l ≤ l.length
  | [] => Nat.le_refl _
  | y :: t => by
    unfold lessN
    have := lessN_le x t
    split <;> simp <;> omega
theorem lessN_lt (x : Int) : ∀ (l : List Int) (j : Nat) (h : j < l.length), j < lessN x l → l[j] < x
  | y :: t, 0, _, h => by
    unfold lessN at h
    split at h
    · assumption
    · omega
  | y :: t, j + 1, hj, h => by
    unfold lessN at h
    split at h
    · exact lessN_lt x t j (by simpa using hj) (by omega)
    · omega
theorem lessN_at (x : Int) : ∀ (l : List Int) (h : lessN x l < l.length), ¬ l[lessN x l] < x
  | y :: t, h => by
    by_cases hy : y < x
    · have e : lessN x (y :: t) = lessN x t + 1 := by rw [lessN, if_pos hy]
      simp only [e] at h ⊢
      simpa using lessN_at x t (by simpa using h)
    · have e : lessN x (y :: t) = 0 := by rw [lessN, if_neg hy]
      simp only [e]
      simpa using hy
theorem lessN_is (x : Int) (l : List Int) (k : Nat) (hk : k ≤ l.length) (h1 : ∀ j (h : j < l.length), j < k → l[j] < x) (h2 : ∀ h : k < l.length, ¬ l[k] < x) : lessN x l = k := by
  rcases Nat.lt_trichotomy (lessN x l) k with h | h | h
  · exact absurd (h1 _ (by omega) h) (lessN_at x l (by omega))
  · exact h
  · exact absurd (lessN_lt x l k (by have := lessN_le x l; omega) h) (h2 (by have := lessN_le x l; omega))
def partF : Nat → List Int → Int → Bool × List IP
  | 0, _, _ => (true, [])
  | _ + 1, [], _ => (true, [])
  | n + 1, x :: t, d =>
    if (t.drop (lessN x t)).any (fun k => decide (k ≤ x)) then (false, [])
    else if (partF n (t.take (lessN x t)) (d + 1)).1 = false then (false, (partF n (t.take (lessN x t)) (d + 1)).2)
    else ((partF n (t.drop (lessN x t)) (d + 1)).1, (partF n (t.take (lessN x t)) (d + 1)).2 ++ [(x, d)] ++ (partF n (t.drop (lessN x t)) (d + 1)).2)
theorem partF_len : ∀ (n : Nat) (l : List Int) (d : Int), (partF n l d).2.length ≤ l.length
  | 0, _, _ => by simp [partF]
  | n + 1, [], _ => by simp [partF]
  | n + 1, x :: t, d => by
    have h0 := lessN_le x t
    have h1 := partF_len n (t.take (lessN x t)) (d + 1)
    have h2 := partF_len n (t.drop (lessN x t)) (d + 1)
    simp only [List.length_take, List.length_drop] at h1 h2
    unfold partF
    split
    · simp
    · split
      · simp; omega
      · simp; omega
theorem take_at_eq (l : List Int) (k : Nat) (h : k ≤ l.length) (hk : 1 ≤ k) : (l.take k).drop 1 = (l.drop 1).take (k - 1) := by
  rw [List.drop_take]
theorem any_drop_false (x : Int) (t : List Int) (n : Nat) (h : ∀ j (hj : j < t.length), n ≤ j → ¬ t[j] ≤ x) : (t.drop n).any (fun k => decide (k ≤ x)) = false := by
  rw [List.any_eq_false]
  intro y hy
  obtain ⟨j, hj, rfl⟩ := List.getElem_of_mem hy
  rw [List.getElem_drop]
  simp at hj
  have := h (n + j) (by omega) (by omega)
  simpa using this
theorem any_drop_true (x : Int) (t : List Int) (n j : Nat) (hj : j < t.length) (hn : n ≤ j) (h : t[j] ≤ x) : (t.drop n).any (fun k => decide (k ≤ x)) = true := by
  rw [List.any_eq_true]
  refine ⟨t[j], ?_, by simpa using h⟩
  rw [List.mem_drop_iff_getElem]
  exact ⟨j - n, by omega, by simp [show n + (j - n) = j from by omega]⟩

theorem partF_l (n : Nat) (l : List Int) (x : Int) (t : List Int) (d : Int) (hl : l = x :: t) (k : Nat) (hk : 1 ≤ k) (hln : lessN x t = k - 1) :
    partF (n + 1) l d = if (l.drop k).any (fun k => decide (k ≤ x)) then (false, []) else if (partF n ((l.take k).drop 1) (d + 1)).1 = false then (false, (partF n ((l.take k).drop 1) (d + 1)).2)
      else ((partF n (l.drop k) (d + 1)).1, (partF n ((l.take k).drop 1) (d + 1)).2 ++ [(x, d)] ++ (partF n (l.drop k) (d + 1)).2) := by
  subst hl
  obtain ⟨k, rfl⟩ : ∃ k', k = k' + 1 := ⟨k - 1, by omega⟩
  rw [partF, hln]
  simp

theorem lo_cut {B b o o2 n c : Nat} {A : Option Addr} {n' c' : Nat} (h : Lo B (.slice (some ⟨b, o, none⟩) n c)) (hA : ∀ ad, A = some ad → ad.block = b) : Lo B (.slice A n' c') := fun k hk => by
  cases A with
  | none => simp [Value.ownBlock] at hk
  | some ad =>
    have := hA ad rfl
    simp [Value.ownBlock] at hk
    subst hk
    exact h _ (by simp [Value.ownBlock, this])
theorem if_blk {p : Prop} [Decidable p] {b o o2 : Nat} {A : Option Addr} (h : (if p then some (⟨b, o, none⟩ : Addr) else some ⟨b, o2, none⟩) = A) : ∀ ad, A = some ad → ad.block = b := by
  intro ad e
  subst e
  split at h <;> (injection h with h; rw [← h])
def PaPost (B g : Nat) (st e : TypeId) (r : Bool × List IP) (acc : List IP) (w : World) (en : Ending) (w' : World) : Prop := en = .returned (.bool r.1) ∧ OB w' B g st e ePair (acc ++ r.2) ∧ KO g B w w'
def Pa1 (l : List Int) (x : Int) (w : World) (nv : Value) (wr : World) : Prop := ∃ k : Nat, 1 ≤ k ∧ k ≤ l.length ∧ nv = .int .i64 k ∧ (∀ j (h : j < l.length), 1 ≤ j → j < k → l[j] < x) ∧ Kp w wr
def Pa2 (l : List Int) (x : Int) (n : Nat) (w : World) (iv : Value) (wr : World) : Prop := ∃ k : Nat, k ≤ l.length - n ∧ iv = .int .i64 k ∧ (∀ j (h : j < l.length), n ≤ j → j < n + k → ¬ l[j] ≤ x) ∧ Kp w wr

end Go.Proofs.YtfgbbmjnjppfnaaDoor
namespace Go.Proofs.YtfgbbmjnjppfnaaDoor
open Go.ChangeShapes Go.WideShapes Go.ChangeAt Go.RowKit
set_option linter.unusedVariables false
set_option linter.unusedSimpArgs false

def keysIn (l : List Int) : Prop := ∀ k ∈ l, 0 ≤ k ∧ k ≤ 1000000
instance (l : List Int) : Decidable (keysIn l) := by unfold keysIn; infer_instance
def shapeOf (l : List Int) : List IP × Int := if l.length > 200 then ([], 2) else if ¬ keysIn l then ([], 3) else if (partF l.length l 0).1 = false then ([], 3) else ((partF l.length l 0).2, 0)
def KiRel (l : List Int) (w : World) (iv : Value) (wr : World) : Prop := ∃ k : Nat, k ≤ l.length ∧ iv = .int .i64 k ∧ (∀ j (h : j < l.length), j < k → 0 ≤ l[j] ∧ l[j] ≤ 1000000) ∧ w = wr
theorem KO.none {g B : Nat} {w w' a : World} (h : KO g B w w') (hk : Kp a w) (hg : a.heap.size ≤ g) (hv : w.cell? ⟨g, 0, none⟩ = some (.slice none 0 0)) : Kp a w' :=
  h.kp hk hg fun v h1 => by
    rw [hv] at h1
    injection h1 with h1
    subst h1
    intro k hk
    simp [Value.ownBlock] at hk

end Go.Proofs.YtfgbbmjnjppfnaaDoor
namespace Go.Proofs.YtfgbbmjnjppfnaaDoor
open Go.ChangeShapes Go.WideShapes Go.ChangeAt Go.RowKit
set_option linter.unusedVariables false
set_option linter.unusedSimpArgs false

def parOf (l : List IP) : List Int × Int := if mapRight l ≠ 0 then ([], mapRight l) else match ptR l 0 l.length 0 with | some t => (t.pars (-1), 0) | none => ([], 3)
theorem btw_t {n lo hi : Int} (h : lo ≤ n) (h2 : n ≤ hi) : btw n lo hi = true := (btw_iff _ _ _).2 ⟨h, h2⟩
theorem btw_f {n lo hi : Int} (h : n < lo ∨ hi < n) : btw n lo hi = false := (btw_f_iff _ _ _).2 (by omega)
set_option maxRecDepth 100000 in
set_option maxHeartbeats 2000000 in
theorem read_any (l : List IP) (v : Value) (w : World) (hr : RD w ePair v l) : Calls Tryd.prog 46 #[v] w (Ret2 eInt (parOf l) w) := by
  obtain ⟨A, c, rfl, hc, hm⟩ := hr.shape
  by_cases hlen : l.length > 200
  · have hmr : mapRight l = 2 := by rw [mapRight, if_pos hlen]
    have H1 : Hid (parOf l = ([], 2)) := hide (by rw [parOf, hmr, if_pos (by decide)])
    clear hmr
    go_enter Tryd.func46, Tryd.ntmps46
    go_wp2
    go_ret2
    exact ⟨_, by rw [H1.out]; rfl, by rw [H1.out]; exact RD.nil, Below.refl _ _⟩
  · have hres : Hid (mapRight l = mrFrom (-1) l) := hide (by simp [mapRight, hlen])
    have h3f : Hid (mrFrom (-1) l = 3 → parOf l = ([], 3)) := hide (fun h => by rw [parOf, hres.out, h, if_pos (by decide)])
    obtain ⟨C, hC, hmk⟩ := run_mk row_int 0 zero_int l.length (by omega) (by simp [maxLen]; omega)
    have HR := hide hr
    clear hr
    go_enter Tryd.func46, Tryd.ntmps46
    go_wp2
    go_loopw [12] (CRel l w) (fun i wr => l.length - (intOf i).toNat)
    case atStart => exact ⟨0, -1, by omega, rfl, by omega, by omega, fun _ => rfl, fun _ h => by omega, rfl, Below.refl _ _⟩
    case round =>
      obtain ⟨k, last, hk, rfl, h1, h2, h3, h4, hmr, hbel⟩ := hrel
      have hmr' := hide hmr
      clear hmr
      have hz := hbel.size
      by_cases hlt : k < l.length
      · obtain ⟨b, o, rfl, hb, c0, c1⟩ := (HR.out.below hbel).pair hlt
        have hd := mrFrom_drop l k hlt last
        have hkp : Kp w wr := hbel
        by_cases hlo : l[k].1 < 0
        · rw [btw_f (.inl (by omega)), if_neg (by simp)] at hd
          have HP := hide (h3f.out (by rw [← hmr'.out, hd]))
          clear hd h3 h4
          go_wp2_with fail
          go_quiet (fail)
          go_wp2
          go_ret2
          exact ⟨_, by rw [HP.out]; rfl, by rw [HP.out]; exact RD.nil, Kp.bel (by (focus ((repeat (first | (with_reducible assumption) | (with_reducible exact Kp.refl _) | (with_reducible apply Kp.drew) | (with_reducible apply Kp.drewN) | ((with_reducible apply Kp.setR); (focus (first | (with_reducible assumption) | (simp; done) | (simp; omega)))) | (with_reducible apply Kp.alloc) | ((with_reducible apply Kp.call); (with_reducible assumption)) | ((with_reducible apply Kp.app); (with_reducible assumption)))); done)))⟩
        · by_cases hhi : 1000000 < l[k].1
          · rw [btw_f (.inr hhi), if_neg (by simp)] at hd
            have HP := hide (h3f.out (by rw [← hmr'.out, hd]))
            have hg3 : decide (l[k].1 < 0) = false := by simp; omega
            clear hd h3 h4 hlo
            go_wp2_with fail
            go_quiet (fail)
            go_wp2
            go_ret2
            exact ⟨_, by rw [HP.out]; rfl, by rw [HP.out]; exact RD.nil, Kp.bel (by (focus ((repeat (first | (with_reducible assumption) | (with_reducible exact Kp.refl _) | (with_reducible apply Kp.drew) | (with_reducible apply Kp.drewN) | ((with_reducible apply Kp.setR); (focus (first | (with_reducible assumption) | (simp; done) | (simp; omega)))) | (with_reducible apply Kp.alloc) | ((with_reducible apply Kp.call); (with_reducible assumption)) | ((with_reducible apply Kp.app); (with_reducible assumption)))); done)))⟩
          · by_cases hk0 : k = 0
            · have hl : last = -1 := h3 hk0
              rw [btw_t (by omega) (by omega), if_pos rfl] at hd
              have HD := hide hd
              have hg : decide (0 < k) = false := by simp; omega
              have hg2 : decide (1000000 < l[k].1) = false := by simp; omega
              have hg3 : decide (l[k].1 < 0) = false := by simp; omega
              have HL := hide hl
              have HK0 := hide hk0
              have HN : Hid (0 ≤ l[k].1) := hide (by omega)
              have HN2 : Hid (l[k].1 ≤ 1000000) := hide (by omega)
              clear hd h3 h4 hl hk0 hlo hhi
              go_wp2_with fail
              go_quiet (fail)
              go_wp2
              go_roundw
              case rel => exact ⟨k+1, l[k].1, by omega, by go_num, by have := HN.out; omega, HN2.out, fun h => by omega, fun _ _ => ⟨rfl, HN.out⟩, by rw [← HD.out, hmr'.out], Kp.bel (by (focus ((repeat (first | (with_reducible assumption) | (with_reducible exact Kp.refl _) | (with_reducible apply Kp.drew) | (with_reducible apply Kp.drewN) | ((with_reducible apply Kp.setR); (focus (first | (with_reducible assumption) | (simp; done) | (simp; omega)))) | (with_reducible apply Kp.alloc) | ((with_reducible apply Kp.call); (with_reducible assumption)) | ((with_reducible apply Kp.app); (with_reducible assumption)))); done)))⟩
              case measure => simp [intOf]; omega
            · have hkm : k - 1 < l.length := by omega
              obtain ⟨hl, hl0⟩ := h4 hkm (by omega)
              obtain ⟨b2, o2, e2, _, c2, _⟩ := (HR.out.below hbel).pair (k := k - 1) hkm
              injection e2 with e2
              injection e2 with e3 e4
              subst e3 e4
              have hg : decide (0 < k) = true := by simp; omega
              have hw1 : IntKind.i64.wrap ((k : Int) - 1) = (k : Int) - 1 := IntWalk.i64_in _ (by omega)
              have hw2 : (0 : Int) ≤ (k : Int) - 1 := by omega
              have hw3 : (k : Int) - 1 < (l.length : Int) := by omega
              have hw4 : ((k : Int) - 1).toNat = k - 1 := by omega
              have hg2 : decide (1000000 < l[k].1) = false := by simp; omega
              have hg3 : decide (l[k].1 < 0) = false := by simp; omega
              by_cases hge : l[k].1 ≤ l[k-1].1
              · rw [btw_f (.inl (by omega)), if_neg (by simp)] at hd
                have HP := hide (h3f.out (by rw [← hmr'.out, hd]))
                clear hd h3 h4 hl hk0 hlo hhi
                go_wp2_with fail
                go_quiet (fail)
                go_wp2
                go_ret2
                exact ⟨_, by rw [HP.out]; rfl, by rw [HP.out]; exact RD.nil, Kp.bel (by (focus ((repeat (first | (with_reducible assumption) | (with_reducible exact Kp.refl _) | (with_reducible apply Kp.drew) | (with_reducible apply Kp.drewN) | ((with_reducible apply Kp.setR); (focus (first | (with_reducible assumption) | (simp; done) | (simp; omega)))) | (with_reducible apply Kp.alloc) | ((with_reducible apply Kp.call); (with_reducible assumption)) | ((with_reducible apply Kp.app); (with_reducible assumption)))); done)))⟩
              · rw [btw_t (by omega) (by omega), if_pos rfl] at hd
                have HD := hide hd
                have HL := hide hl
                have HN : Hid (0 ≤ l[k].1) := hide (by omega)
                have HN2 : Hid (l[k].1 ≤ 1000000) := hide (by omega)
                clear hd h3 h4 hl hk0 hlo hhi
                go_wp2_with fail
                go_quiet (fail)
                go_wp2
                go_roundw
                case rel => exact ⟨k+1, l[k].1, by omega, by go_num, by have := HN.out; omega, HN2.out, fun h => by omega, fun _ _ => ⟨rfl, HN.out⟩, by rw [← HD.out, hmr'.out], Kp.bel (by (focus ((repeat (first | (with_reducible assumption) | (with_reducible exact Kp.refl _) | (with_reducible apply Kp.drew) | (with_reducible apply Kp.drewN) | ((with_reducible apply Kp.setR); (focus (first | (with_reducible assumption) | (simp; done) | (simp; omega)))) | (with_reducible apply Kp.alloc) | ((with_reducible apply Kp.call); (with_reducible assumption)) | ((with_reducible apply Kp.app); (with_reducible assumption)))); done)))⟩
                case measure => simp [intOf]; omega
      · have hmr0 : mrFrom (-1) l = 0 := by rw [← hmr'.out, mrFrom_end _ _ hlt]
        have hpo : parOf l = match ptR l 0 l.length 0 with | some t => (t.pars (-1), 0) | none => ([], 3) := by rw [parOf, hres.out, hmr0]; simp
        have hkp : Kp w wr := hbel
        have hkl : k = l.length := by omega
        have HKL := hide hkl
        have HPO := hide hpo
        clear hmr0 hpo hmr' h3 h4 hkl
        have HRL : Hid ((List.replicate l.length (0 : Int)).length = l.length) := hide (by simp)
        have HCP := hide (fun r (hres : (ptR l 0 l.length 0).isSome = r) (h : AR (wr.alloc (.cells C 3)) wr.heap.size 3 eInt (List.replicate l.length (0 : Int))) (hx : 0 < l.length → (Value.slice A l.length c).ownBlock ≠ some wr.heap.size) =>
          parents_any l (.slice A l.length c) wr.heap.size (by omega) hx 1000 0 l.length (-1) 0 (List.replicate l.length 0) r (wr.alloc (.cells C 3)) (by omega) (by omega) (by omega) (by omega) (by omega) ((HR.out.kp hkp).alloc _) h HRL.out hres)
        rw [HRL.out] at HCP
        simp only [Int.natCast_zero] at HCP
        have hx : Hid (0 < l.length → (Value.slice A l.length c).ownBlock ≠ some wr.heap.size) := hide (fun h0 => by
          obtain ⟨b, o, e, hb, _⟩ := (HR.out.kp hkp).pair h0
          subst e
          intro e
          injection e with e
          simp at e
          omega)
        cases hpt : ptR l 0 l.length 0 with
        | none =>
          have HP : Hid (parOf l = ([], 3)) := hide (by rw [HPO.out, hpt])
          have HPT := hide hpt
          clear hpt
          go_wp2_with fail
          refine (HCP.out false (by rw [HPT.out]; rfl) (AR.made hC) hx.out).mono ?_
          rintro e w2 ⟨out1, rfl, ha1, hl1, hk1, hs1, ht1⟩
          have HA1 := hide ha1
          clear ha1 hl1 hs1 ht1
          go_wp2
          go_ret2
          exact ⟨_, by rw [HP.out]; rfl, by rw [HP.out]; exact RD.nil, (hk1.kp (Kp.alloc hkp) hkp.size).bel⟩
        | some t =>
          have HP : Hid (parOf l = (t.pars (-1), 0)) := hide (by rw [HPO.out, hpt])
          have hsz := ptR_size l 0 l.length 0 t (by omega) hpt
          have HPT := hide hpt
          clear hpt
          go_wp2_with fail
          refine (HCP.out true (by rw [HPT.out]; rfl) (AR.made hC) hx.out).mono ?_
          rintro e w2 ⟨out1, rfl, ha1, hl1, hk1, hs1, ht1⟩
          have he : out1 = t.pars (-1) := by
            have h9 := PT.pars_len t (-1)
            have h10 := HRL.out
            refine List.ext_getElem? fun j => ?_
            by_cases hj : j < l.length
            · have := ht1 t HPT.out j (by omega)
              rwa [Nat.zero_add] at this
            · rw [List.getElem?_eq_none (by omega), List.getElem?_eq_none (by omega)]
          subst he
          have HA1 := hide ha1
          clear ha1 hs1 ht1
          have HL1 : Hid ((t.pars (-1)).length = l.length) := hide (by rw [hl1, HRL.out])
          clear hl1
          go_wp2
          go_ret2
          refine ⟨_, by rw [HP.out]; rfl, ?_, (hk1.kp (Kp.alloc hkp) hkp.size).bel⟩
          rw [HP.out, ← HL1.out]
          exact HA1.out.rd (by rw [HL1.out]; unfold maxLen; omega)
theorem parents_of (l : List IP) (v : Value) (w : World) (hr : RD w ePair v l) : Calls Tryd.prog 31 #[v] w (Ret2 eInt (parOf l) w) := by
  have HR := hide hr
  clear hr
  go_enter Tryd.func31, Tryd.ntmps31
  go_wp2_with fail
  refine (read_any l v w HR.out).mono ?_
  rintro e w1 ⟨v1, rfl, hr1, hb1⟩
  have HR1 := hide hr1
  clear hr1
  go_wp2
  go_ret2
  exact ⟨v1, rfl, HR1.out, hb1⟩
end Go.Proofs.YtfgbbmjnjppfnaaDoor
namespace Go.Proofs.YtfgbbmjnjppfnaaDoor
open Go.ChangeShapes Go.WideShapes Go.ChangeAt Go.RowKit
set_option linter.unusedVariables false
set_option linter.unusedSimpArgs false

theorem mrFrom_01 : ∀ (l : List IP) (last : Int), mrFrom last l = 0 ∨ mrFrom last l = 3
  | [], _ => .inl rfl
  | p :: t, last => by
    unfold mrFrom
    split
    · exact mrFrom_01 t p.1
    · exact .inr rfl
theorem mrFrom_cons {p : IP} {t : List IP} {last : Int} (h : mrFrom last (p :: t) = 0) : last < p.1 ∧ p.1 ≤ 1000000 ∧ mrFrom p.1 t = 0 := by
  unfold mrFrom at h
  split at h
  · rename_i hb
    have := (btw_iff _ _ _).1 hb
    exact ⟨by omega, this.2, h⟩
  · omega
theorem mrFrom_gt : ∀ (l : List IP) (last : Int), mrFrom last l = 0 → ∀ x ∈ l, last < x.1
  | [], _, _, x, hx => by cases hx
  | p :: t, last, h, x, hx => by
    obtain ⟨h1, h2, h3⟩ := mrFrom_cons h
    rcases List.mem_cons.1 hx with rfl | hx
    · exact h1
    · have := mrFrom_gt t p.1 h3 x hx; omega
theorem mrFrom_append : ∀ (a b : List IP) (last : Int), mrFrom last a = 0 → (∀ l2, (∀ x ∈ a, x.1 ≤ l2) → last ≤ l2 → (a = [] → l2 = last) → (∀ x, a.getLast? = some x → l2 = x.1) → mrFrom l2 b = 0) → mrFrom last (a ++ b) = 0
  | [], b, last, _, h => by simpa using h last (by simp) (by omega) (fun _ => rfl) (by simp)
  | p :: t, b, last, ha, h => by
    obtain ⟨h1, h2, h3⟩ := mrFrom_cons ha
    rw [List.cons_append, mrFrom, if_pos ((btw_iff _ _ _).2 ⟨by omega, h2⟩)]
    refine mrFrom_append t b p.1 h3 fun l2 g1 g2 g3 g4 => ?_
    refine h l2 (fun x hx => ?_) (by omega) (by simp) (fun x hx => ?_)
    · rcases List.mem_cons.1 hx with rfl | hx
      · exact g2
      · exact g1 x hx
    · cases t with
      | nil => simp at hx; subst hx; exact g3 rfl
      | cons q t => exact g4 x (by simpa [List.getLast?_cons_cons] using hx)
theorem mrFrom_more {b : List IP} {l1 l2 : Int} (h : mrFrom l1 b = 0) (h2 : ∀ x ∈ b, l2 < x.1) : mrFrom l2 b = 0 := by
  cases b with
  | nil => rfl
  | cons p t =>
    obtain ⟨g1, g2, g3⟩ := mrFrom_cons h
    have := h2 p (by simp)
    rw [mrFrom, if_pos ((btw_iff _ _ _).2 ⟨by omega, g2⟩), g3]
theorem mapRight_from (l : List IP) (h : mapRight l = 0) : mrFrom (-1) l = 0 := by
  unfold mapRight at h
  split at h
  · omega
  · exact h

theorem mrFrom_keys : ∀ (l m : List IP) (last : Int), l.map Prod.fst = m.map Prod.fst → mrFrom last l = mrFrom last m
  | [], [], _, _ => rfl
  | [], _ :: _, _, h => by simp at h
  | _ :: _, [], _, h => by simp at h
  | p :: t, q :: u, last, h => by
    simp only [List.map_cons, List.cons.injEq] at h
    rw [mrFrom, mrFrom, h.1, mrFrom_keys t u q.1 h.2]
theorem mapRight_keys (l m : List IP) (h : l.map Prod.fst = m.map Prod.fst) : mapRight l = mapRight m := by
  have hl : l.length = m.length := by simpa using congrArg List.length h
  rw [mapRight, mapRight, hl, mrFrom_keys l m _ h]
theorem mrFrom_rise : ∀ (l : List IP) (last : Int), mrFrom last l = 0 → ∀ i j (hi : i < l.length) (hj : j < l.length), i < j → l[i].1 < l[j].1
  | p :: t, last, h, 0, j + 1, hi, hj, _ => by
    obtain ⟨_, _, h3⟩ := mrFrom_cons h
    simp only [List.getElem_cons_zero, List.getElem_cons_succ]
    exact mrFrom_gt t p.1 h3 _ (List.getElem_mem _)
  | p :: t, last, h, i + 1, j + 1, hi, hj, hij => by
    obtain ⟨_, _, h3⟩ := mrFrom_cons h
    simp only [List.getElem_cons_succ]
    exact mrFrom_rise t p.1 h3 i j (by simpa using hi) (by simpa using hj) (by omega)
  | _, _, _, 0, 0, _, _, h => by omega
  | _, _, _, i + 1, 0, _, _, h => by omega
theorem mrFrom_le6 : ∀ (l : List IP) (last : Int), mrFrom last l = 0 → ∀ x ∈ l, x.1 ≤ 1000000
  | [], _, _, x, hx => by cases hx
  | p :: t, last, h, x, hx => by
    obtain ⟨h1, h2, h3⟩ := mrFrom_cons h
    rcases List.mem_cons.1 hx with rfl | hx
    · exact h2
    · exact mrFrom_le6 t p.1 h3 x hx
theorem mapRight_rise (l : List IP) (h : mapRight l = 0) (i j : Nat) (hi : i < l.length) (hj : j < l.length) (hij : i < j) : l[i].1 < l[j].1 := mrFrom_rise l (-1) (mapRight_from l h) i j hi hj hij
theorem mapRight_in (l : List IP) (h : mapRight l = 0) (x : IP) (hx : x ∈ l) : 0 ≤ x.1 ∧ x.1 ≤ 1000000 :=
  ⟨by have := mrFrom_gt l (-1) (mapRight_from l h) x hx; omega, mrFrom_le6 l (-1) (mapRight_from l h) x hx⟩
end Go.Proofs.YtfgbbmjnjppfnaaDoor
namespace Go.Proofs.YtfgbbmjnjppfnaaDoor
open Go.ChangeShapes Go.WideShapes Go.ChangeAt Go.RowKit
set_option linter.unusedVariables false
set_option linter.unusedSimpArgs false

theorem PT.deps_ge : ∀ (t : PT) (d : Int), ∀ e ∈ t.deps d, d ≤ e
  | .nil, d, e, h => by simp [deps] at h
  | .node p l r, d, e, h => by
    simp only [deps, List.mem_append, List.mem_singleton] at h
    rcases h with (h | rfl) | h
    · have := deps_ge l (d + 1) e h; omega
    · omega
    · have := deps_ge r (d + 1) e h; omega
theorem PT.deps_node (p : Nat) (l r : PT) (d : Int) (j : Nat) : ((PT.node p l r).deps d)[j]? = if j < l.size then (l.deps (d + 1))[j]? else if j = l.size then some d else (r.deps (d + 1))[j - (l.size + 1)]? := by
  have h := PT.deps_len l (d + 1)
  simp only [deps, List.append_assoc]
  rcases Nat.lt_trichotomy j l.size with hj | hj | hj
  · rw [if_pos hj, List.getElem?_append_left (by omega)]
  · rw [if_neg (by omega), if_pos hj, List.getElem?_append_right (by omega), h, hj, Nat.sub_self]; rfl
  · rw [if_neg (by omega), if_neg (by omega), List.getElem?_append_right (by omega), h, show j - l.size = (j - (l.size + 1)) + 1 from by omega]; rfl
theorem PT.pars_node (p : Nat) (l r : PT) (u : Int) (j : Nat) : ((PT.node p l r).pars u)[j]? = if j < l.size then (l.pars p)[j]? else if j = l.size then some u else (r.pars p)[j - (l.size + 1)]? := by
  have h := PT.pars_len l (p : Int)
  simp only [pars, List.append_assoc]
  rcases Nat.lt_trichotomy j l.size with hj | hj | hj
  · rw [if_pos hj, List.getElem?_append_left (by omega)]
  · rw [if_neg (by omega), if_pos hj, List.getElem?_append_right (by omega), h, hj, Nat.sub_self]; rfl
  · rw [if_neg (by omega), if_neg (by omega), List.getElem?_append_right (by omega), h, show j - l.size = (j - (l.size + 1)) + 1 from by omega]; rfl

theorem topF_stay (l : List IP) (p : Nat) : ∀ n k, (∀ j, k ≤ j → j < k + n → gv l p < gv l j) → topF l n k p true = (p, true)
  | 0, _, _ => rfl
  | n + 1, k, h => by
    have := h k (by omega) (by omega)
    rw [topF, if_neg (by omega), if_neg (by omega)]
    exact topF_stay l p n (k + 1) fun j a b => h j (by omega) (by omega)
theorem topF_find (l : List IP) (p : Nat) : ∀ n k a al, k ≤ p → p < k + n → gv l p < gv l a → (∀ j, k ≤ j → j < k + n → j ≠ p → gv l p < gv l j) → topF l n k a al = (p, true)
  | 0, k, a, al, h1, h2, _, _ => by omega
  | n + 1, k, a, al, h1, h2, h3, h4 => by
    by_cases hkp : k = p
    · subst hkp
      rw [topF, if_pos h3]
      exact topF_stay l k n (k + 1) fun j a b => h4 j (by omega) (by omega) (by omega)
    · have hk := h4 k (by omega) (by omega) hkp
      rw [topF]
      split
      · exact topF_find l p n (k + 1) k true (by omega) (by omega) hk fun j a b c => h4 j (by omega) (by omega) c
      · split
        · exact topF_find l p n (k + 1) a false (by omega) (by omega) h3 fun j a b c => h4 j (by omega) (by omega) c
        · exact topF_find l p n (k + 1) a al (by omega) (by omega) h3 fun j a b c => h4 j (by omega) (by omega) c
theorem topS_find (l : List IP) (lo hi p : Nat) (h1 : lo ≤ p) (h2 : p < hi) (h : ∀ j, lo ≤ j → j < hi → j ≠ p → gv l p < gv l j) : topS l lo hi = (p, true) := by
  unfold topS
  by_cases hp : lo = p
  · subst hp
    exact topF_stay l lo _ _ fun j a b => h j (by omega) (by omega) (by omega)
  · exact topF_find l p _ _ _ _ (by omega) (by omega) (h lo (by omega) (by omega) hp) fun j a b c => h j (by omega) (by omega) c
/-- The spots of a tree of places make that tree again. -/
theorem ptR_of (l : List IP) : ∀ (t : PT) (lo hi : Nat) (d : Int), t.At lo → hi = lo + t.size → (∀ j, j < t.size → some (gv l (lo + j)) = (t.deps d)[j]?) → ptR l lo hi d = some t
  | .nil, lo, hi, d, _, h, _ => ptR_nil l lo hi d (by simp [PT.size] at h; omega)
  | .node p a b, lo, hi, d, ⟨hp, ha, hb⟩, h, hg => by
    simp only [PT.size] at h hg
    have hgp : gv l p = d := by
      have := hg a.size (by omega)
      rw [PT.deps_node, if_neg (by omega), if_pos rfl, ← hp] at this
      exact Option.some.inj this
    have hga : ∀ j, j < a.size → some (gv l (lo + j)) = (a.deps (d + 1))[j]? := fun j hj => by
      have := hg j (by omega)
      rwa [PT.deps_node, if_pos hj] at this
    have hgb : ∀ j, j < b.size → some (gv l (p + 1 + j)) = (b.deps (d + 1))[j]? := fun j hj => by
      have := hg (a.size + 1 + j) (by omega)
      rw [PT.deps_node, if_neg (by omega), if_neg (by omega), show a.size + 1 + j - (a.size + 1) = j from by omega, show lo + (a.size + 1 + j) = p + 1 + j from by omega] at this
      exact this
    have ht : topS l lo hi = (p, true) := topS_find l lo hi p (by omega) (by omega) fun j h1 h2 h3 => by
      rw [hgp]
      rcases Nat.lt_or_ge j p with hj | hj
      · have := hga (j - lo) (by omega)
        rw [show lo + (j - lo) = j from by omega] at this
        have := PT.deps_ge a (d + 1) _ (List.mem_of_getElem? this.symm)
        omega
      · have := hgb (j - (p + 1)) (by omega)
        rw [show p + 1 + (j - (p + 1)) = j from by omega] at this
        have := PT.deps_ge b (d + 1) _ (List.mem_of_getElem? this.symm)
        omega
    rw [ptR_node l lo hi d (by omega) p ht hgp, ptR_of l a lo p (d + 1) ha hp hga, ptR_of l b (p + 1) hi (d + 1) hb (by omega) hgb]
/-- And what is made is a tree of places with these depths. -/
theorem ptR_to (l : List IP) (lo hi : Nat) (d : Int) (t : PT) (hlh : lo ≤ hi) (h : ptR l lo hi d = some t) : t.At lo ∧ t.size = hi - lo ∧ ∀ j, j < t.size → some (gv l (lo + j)) = (t.deps d)[j]? := by
  by_cases h0 : lo < hi
  · have ht := topS_in l lo hi h0
    by_cases h1 : (topS l lo hi).2 = true ∧ gv l (topS l lo hi).1 = d
    · rw [ptR_node l lo hi d h0 (topS l lo hi).1 (by rw [← h1.1]) h1.2] at h
      cases ha : ptR l lo (topS l lo hi).1 (d + 1) with
      | none => rw [ha] at h; simp at h
      | some a =>
        cases hb : ptR l ((topS l lo hi).1 + 1) hi (d + 1) with
        | none => rw [ha, hb] at h; simp at h
        | some b =>
          rw [ha, hb] at h
          simp only [Option.some.injEq] at h
          subst h
          obtain ⟨h2, h3, h4⟩ := ptR_to l lo (topS l lo hi).1 (d + 1) a ht.1 ha
          obtain ⟨h5, h6, h7⟩ := ptR_to l ((topS l lo hi).1 + 1) hi (d + 1) b (by omega) hb
          refine ⟨⟨by omega, h2, h5⟩, by simp only [PT.size]; omega, fun j hj => ?_⟩
          simp only [PT.size] at hj
          rw [PT.deps_node]
          split
          · exact h4 j (by omega)
          · split
            · rw [show lo + j = (topS l lo hi).1 from by omega, h1.2]
            · have := h7 (j - (a.size + 1)) (by omega)
              rwa [show (topS l lo hi).1 + 1 + (j - (a.size + 1)) = lo + j from by omega] at this
    · rw [ptR_none l lo hi d h0 h1] at h
      cases h
  · rw [ptR_nil l lo hi d h0] at h
    injection h with h
    subst h
    exact ⟨trivial, by simp [PT.size]; omega, fun j hj => by simp [PT.size] at hj⟩
termination_by hi - lo

/-- A map's keys with the depths of a tree of places. -/
theorem parOf_tree (l : List IP) (t : PT) (hm : mapRight l = 0) (ha : t.At 0) (hs : t.size = l.length) (hd : ∀ j, j < l.length → some (gv l j) = (t.deps 0)[j]?) : parOf l = (t.pars (-1), 0) := by
  rw [parOf, if_neg (by simp [hm]), ptR_of l t 0 l.length 0 ha (by omega) (fun j hj => by rw [Nat.zero_add]; exact hd j (by omega))]
theorem zip_keys (l : List IP) (ds : List Int) (h : ds.length = l.length) : (List.zipWith (fun (p : IP) (e : Int) => ((p.1, e) : IP)) l ds).map Prod.fst = l.map Prod.fst := by
  apply List.ext_getElem
  · simp [h]
  · intro i h1 h2; simp
theorem zip_gv (l : List IP) (ds : List Int) (h : ds.length = l.length) (j : Nat) (hj : j < l.length) : some (gv (List.zipWith (fun (p : IP) (e : Int) => ((p.1, e) : IP)) l ds) j) = ds[j]? := by
  rw [gv_eq _ j (by simp; omega), List.getElem?_eq_getElem (by omega)]
  simp
theorem parOf_zip (l : List IP) (t : PT) (hm : mapRight l = 0) (ha : t.At 0) (hs : t.size = l.length) : parOf (List.zipWith (fun (p : IP) (e : Int) => ((p.1, e) : IP)) l (t.deps 0)) = (t.pars (-1), 0) := by
  have hdl := PT.deps_len t 0
  have hl : (List.zipWith (fun (p : IP) (e : Int) => ((p.1, e) : IP)) l (t.deps 0)).length = l.length := by simp; omega
  refine parOf_tree _ t (by rw [mapRight_keys _ l (zip_keys l _ (by omega)), hm]) ha (by omega) fun j hj => zip_gv l _ (by omega) j (by omega)
theorem parOf_len (l : List IP) (h : (parOf l).2 = 0) : l.length ≤ 200 ∧ mapRight l = 0 ∧ ∃ t, ptR l 0 l.length 0 = some t ∧ parOf l = (t.pars (-1), 0) := by
  unfold parOf at h
  by_cases h0 : mapRight l = 0
  · rw [if_neg (by simp [h0])] at h
    cases ht : ptR l 0 l.length 0 with
    | none => rw [ht] at h; simp at h
    | some t => exact ⟨mapRight_len l h0, h0, t, rfl, by rw [parOf, if_neg (by simp [h0]), ht]⟩
  · rw [if_pos h0] at h
    exact absurd h h0
end Go.Proofs.YtfgbbmjnjppfnaaDoor
namespace Go.Proofs.YtfgbbmjnjppfnaaDoor
open Go.ChangeShapes Go.WideShapes Go.ChangeAt Go.RowKit
set_option linter.unusedVariables false
set_option linter.unusedSimpArgs false

theorem PT.deps_lt : ∀ (t : PT) (d : Int), ∀ e ∈ t.deps d, e < d + t.size
  | .nil, d, e, h => by simp [deps] at h
  | .node p l r, d, e, h => by
    simp only [deps, List.mem_append, List.mem_singleton] at h
    simp only [size]
    rcases h with (h | rfl) | h
    · have := deps_lt l (d + 1) e h; omega
    · omega
    · have := deps_lt r (d + 1) e h; omega
theorem gv_bound (l : List IP) (h : (parOf l).2 = 0) (k : Nat) (hk : k < l.length) : 0 ≤ l[k].2 ∧ l[k].2 < 200 := by
  obtain ⟨h1, h2, t, ht, _⟩ := parOf_len l h
  obtain ⟨h3, h4, h5⟩ := ptR_to l 0 l.length 0 t (by omega) ht
  have h6 := h5 k (by omega)
  rw [Nat.zero_add, gv_eq l k hk] at h6
  have h7 := List.mem_of_getElem? h6.symm
  have := PT.deps_ge t 0 _ h7
  have := PT.deps_lt t 0 _ h7
  omega
set_option maxHeartbeats 1000000 in
theorem shapeCheck_any (l : List IP) (v : Value) (w : World) (hr : RD w ePair v l) : Calls Tryd.prog 23 #[v] w (Ret (.int .i64 (parOf l).2) w) := by
  have HR := hide hr
  have HRD := hide (fun W v h => read_any l v W h)
  obtain ⟨P, hP⟩ : ∃ P, P = parOf l := ⟨_, rfl⟩
  rw [← hP] at HRD ⊢
  obtain ⟨a, r⟩ := P
  clear hr hP
  go_enter Tryd.func23, Tryd.ntmps23
  go_wp2_with fail
  with_reducible refine (HRD.out _ _ HR.out).mono ?_
  rintro e w1 ⟨v1, rfl, hr1, hb1⟩
  obtain ⟨A1, c1, rfl, _, _⟩ := hr1.shape
  clear hr1
  go_wp2
  go_ret
  exact ⟨rfl, hb1⟩
end Go.Proofs.YtfgbbmjnjppfnaaDoor
namespace Go.Proofs.YtfgbbmjnjppfnaaDoor
open Go.ChangeShapes Go.WideShapes Go.ChangeAt Go.RowKit
set_option linter.unusedVariables false
set_option linter.unusedSimpArgs false

theorem mapRight_of (l : List IP) (h1 : l.length ≤ 200) (h2 : l.Pairwise (fun a b => a.1 < b.1)) (h3 : ∀ x ∈ l, 0 ≤ x.1 ∧ x.1 ≤ 1000000) : mapRight l = 0 := by
  rw [mapRight, if_neg (by omega)]
  have : ∀ (l : List IP) (last : Int), l.Pairwise (fun a b => a.1 < b.1) → (∀ x ∈ l, last < x.1 ∧ x.1 ≤ 1000000) → mrFrom last l = 0 := by
    intro l
    induction l with
    | nil => intro _ _ _; rfl
    | cons p t ih =>
      intro last hr hb
      have hp := hb p (by simp)
      rw [List.pairwise_cons] at hr
      rw [mrFrom, if_pos ((btw_iff _ _ _).2 ⟨by omega, hp.2⟩)]
      exact ih p.1 hr.2 fun x hx => ⟨hr.1 x hx, (hb x (by simp [hx])).2⟩
  exact this l (-1) h2 fun x hx => ⟨by have := (h3 x hx).1; omega, (h3 x hx).2⟩
theorem walkF_mem (l : List IP) (last : Bool) (lo hi : Nat) : ∀ x ∈ walkF l last lo hi, ∃ k, lo ≤ k ∧ k < hi ∧ x = gk l k := by
  by_cases h : lo < hi
  · have ht := topS_in l lo hi h
    have h1 := walkF_mem l last lo (topS l lo hi).1
    have h2 := walkF_mem l last ((topS l lo hi).1 + 1) hi
    intro x hx
    have : x = gk l (topS l lo hi).1 ∨ x ∈ walkF l last lo (topS l lo hi).1 ∨ x ∈ walkF l last ((topS l lo hi).1 + 1) hi := by
      cases last
      · rw [walkF_first l lo hi h] at hx; simpa [or_assoc] using hx
      · rw [walkF_last l lo hi h] at hx
        simp only [List.mem_append, List.mem_singleton] at hx
        rcases hx with (hx | hx) | hx
        · exact .inr (.inl hx)
        · exact .inr (.inr hx)
        · exact .inl hx
    rcases this with rfl | hx | hx
    · exact ⟨_, ht.1, ht.2, rfl⟩
    · obtain ⟨k, a, b, c⟩ := h1 x hx; exact ⟨k, a, by omega, c⟩
    · obtain ⟨k, a, b, c⟩ := h2 x hx; exact ⟨k, by omega, b, c⟩
  · rw [walkF_nil l last lo hi h]; simp
termination_by hi - lo
theorem lessN_append (x : Int) (a b : List Int) (ha : ∀ y ∈ a, y < x) (hb : ∀ y ∈ b, x < y) : lessN x (a ++ b) = a.length := by
  refine lessN_is x (a ++ b) a.length (by simp) (fun j h hj => ?_) (fun h => ?_)
  · rw [List.getElem_append_left hj]; exact ha _ (List.getElem_mem _)
  · rw [List.getElem_append_right (Nat.le_refl _)]
    have := hb _ (List.getElem_mem (by simp at h ⊢; omega : a.length - a.length < b.length))
    omega
/-- Of a tree: what is told node first is parted again. -/
theorem part_walk (l : List IP) (hr : ∀ i j (hi : i < l.length) (hj : j < l.length), i < j → l[i].1 < l[j].1) (n : Nat) : ∀ (lo hi : Nat) (d : Int) (t : PT), hi - lo ≤ n → lo ≤ hi → hi ≤ l.length → ptR l lo hi d = some t → partF n (walkF l false lo hi) d = (true, (l.take hi).drop lo) := by
  induction n with
  | zero =>
    intro lo hi d t h1 h2 h3 ht
    obtain rfl : lo = hi := by omega
    rw [walkF_nil l false lo lo (by omega)]
    simp [partF]
  | succ n ih =>
    intro lo hi d t h1 h2 h3 ht
    by_cases hlt : lo < hi
    · have htin := topS_in l lo hi hlt
      by_cases hok : (topS l lo hi).2 = true ∧ gv l (topS l lo hi).1 = d
      · obtain ⟨at_, hat⟩ : ∃ a, a = (topS l lo hi).1 := ⟨_, rfl⟩
        have htop : topS l lo hi = (at_, true) := by rw [hat, ← hok.1]
        have hgd : gv l at_ = d := by rw [hat]; exact hok.2
        rw [ptR_node l lo hi d hlt at_ htop hgd] at ht
        have hw := walkF_first l lo hi hlt
        rw [← hat] at hw htin
        cases ha : ptR l lo at_ (d + 1) with
        | none => rw [ha] at ht; simp at ht
        | some ta =>
          cases hb : ptR l (at_ + 1) hi (d + 1) with
          | none => rw [ha, hb] at ht; simp at ht
          | some tb =>
            have ia := ih lo at_ (d + 1) ta (by omega) htin.1 (by omega) ha
            have ib := ih (at_ + 1) hi (d + 1) tb (by omega) (by omega) h3 hb
            have hatl : at_ < l.length := by omega
            have hgk : gk l at_ = l[at_].1 := gk_eq l at_ hatl
            have hA : ∀ y ∈ walkF l false lo at_, y < gk l at_ := fun y hy => by
              obtain ⟨k, a, b, rfl⟩ := walkF_mem l false lo at_ y hy
              rw [gk_eq l k (by omega), hgk]
              exact hr k at_ (by omega) hatl b
            have hB : ∀ y ∈ walkF l false (at_ + 1) hi, gk l at_ < y := fun y hy => by
              obtain ⟨k, a, b, rfl⟩ := walkF_mem l false (at_ + 1) hi y hy
              rw [gk_eq l k (by omega), hgk]
              exact hr at_ k hatl (by omega) (by omega)
            have hless := lessN_append (gk l at_) _ _ hA hB
            rw [hw, List.append_assoc, List.singleton_append, partF, hless, List.take_left' rfl, List.drop_left' rfl, ia, ib, if_neg, if_neg (by simp)]
            · rw [seg_split l lo at_ hi htin.1 htin.2 h3]
              have : ((gk l at_, d) : IP) = l[at_] := Prod.ext hgk (by rw [← hgd]; exact gv_eq l at_ hatl)
              rw [this]
            · simp only [Bool.not_eq_true, List.any_eq_false, decide_eq_true_eq]
              intro y hy
              have := hB y hy; omega
      · rw [ptR_none l lo hi d hlt hok] at ht; cases ht
    · rw [walkF_nil l false lo hi hlt]
      obtain rfl : lo = hi := by omega
      simp [partF]
theorem partF_mem : ∀ (n : Nat) (l : List Int) (d : Int), ∀ p ∈ (partF n l d).2, p.1 ∈ l ∧ d ≤ p.2
  | 0, _, _, p, h => by simp [partF] at h
  | n + 1, [], _, p, h => by simp [partF] at h
  | n + 1, x :: t, d, p, h => by
    have ha := partF_mem n (t.take (lessN x t)) (d + 1)
    have hb := partF_mem n (t.drop (lessN x t)) (d + 1)
    unfold partF at h
    split at h
    · simp at h
    · split at h
      · obtain ⟨h1, h2⟩ := ha p h
        exact ⟨List.mem_cons_of_mem _ (List.mem_of_mem_take h1), by omega⟩
      · simp only [List.mem_append, List.mem_singleton] at h
        rcases h with (h | rfl) | h
        · obtain ⟨h1, h2⟩ := ha p h
          exact ⟨List.mem_cons_of_mem _ (List.mem_of_mem_take h1), by omega⟩
        · exact ⟨by simp, by simp⟩
        · obtain ⟨h1, h2⟩ := hb p h
          exact ⟨List.mem_cons_of_mem _ (List.mem_of_mem_drop h1), by omega⟩
/-- A list that is parted makes a tree that is told so. -/
theorem walk_part (l : List IP) (n : Nat) : ∀ (first : List Int) (d : Int) (lo : Nat), first.length ≤ n → (partF n first d).1 = true → (∀ j, j < (partF n first d).2.length → l[lo + j]? = (partF n first d).2[j]?) →
    (partF n first d).2.Pairwise (fun a b => a.1 < b.1) ∧ walkF l false lo (lo + (partF n first d).2.length) = first ∧ ∃ t, ptR l lo (lo + (partF n first d).2.length) d = some t := by
  induction n with
  | zero =>
    intro first d lo h1 _ _
    obtain rfl : first = [] := List.eq_nil_of_length_eq_zero (by omega)
    simp only [partF, List.length_nil, Nat.add_zero]
    exact ⟨.nil, walkF_nil l false lo lo (by omega), _, ptR_nil l lo lo d (by omega)⟩
  | succ n ih =>
    intro first d lo h1 hok hl
    cases first with
    | nil =>
      simp only [partF, List.length_nil, Nat.add_zero]
      exact ⟨.nil, walkF_nil l false lo lo (by omega), _, ptR_nil l lo lo d (by omega)⟩
    | cons x t =>
      have hln := lessN_le x t
      obtain ⟨A, hA⟩ : ∃ A, A = partF n (t.take (lessN x t)) (d + 1) := ⟨_, rfl⟩
      obtain ⟨Bq, hB⟩ : ∃ B, B = partF n (t.drop (lessN x t)) (d + 1) := ⟨_, rfl⟩
      have hpf : partF (n + 1) (x :: t) d = if (t.drop (lessN x t)).any (fun k => decide (k ≤ x)) then (false, []) else if A.1 = false then (false, A.2) else (Bq.1, A.2 ++ [(x, d)] ++ Bq.2) := by rw [partF, hA, hB]
      by_cases hany : (t.drop (lessN x t)).any (fun k => decide (k ≤ x)) = true
      · rw [hpf, if_pos hany] at hok; simp at hok
      · rw [if_neg hany] at hpf
        by_cases hA1 : A.1 = false
        · rw [hpf, if_pos hA1] at hok; simp at hok
        · rw [if_neg hA1] at hpf
          rw [hpf] at hok hl ⊢
          simp only at hok hl ⊢
          have hA1' : A.1 = true := by cases h : A.1 with | true => rfl | false => exact absurd h hA1
          have hlen : (A.2 ++ [(x, d)] ++ Bq.2).length = A.2.length + 1 + Bq.2.length := by simp; omega
          rw [hlen] at hl ⊢
          have ia := ih (t.take (lessN x t)) (d + 1) lo (by simp at h1 ⊢; omega) (by rw [← hA]; exact hA1') (fun j hj => by
            rw [← hA] at hj ⊢
            rw [hl j (by omega), List.append_assoc, List.getElem?_append_left hj])
          have ib := ih (t.drop (lessN x t)) (d + 1) (lo + A.2.length + 1) (by simp at h1 ⊢; omega) (by rw [← hB]; exact hok) (fun j hj => by
            rw [← hB] at hj ⊢
            have := hl (A.2.length + 1 + j) (by omega)
            rw [show lo + (A.2.length + 1 + j) = lo + A.2.length + 1 + j from by omega] at this
            rw [this, List.getElem?_append_right (by simp)]
            congr 1; simp)
          have ma := partF_mem n (t.take (lessN x t)) (d + 1)
          have mb := partF_mem n (t.drop (lessN x t)) (d + 1)
          rw [← hA] at ia ma
          rw [← hB] at ib mb
          obtain ⟨a1, a2, ta, a3⟩ := ia
          obtain ⟨b1, b2, tb, b3⟩ := ib
          have hltA : ∀ y ∈ t.take (lessN x t), y < x := fun y hy => by
            obtain ⟨j, hj, rfl⟩ := List.getElem_of_mem hy
            simp at hj
            rw [List.getElem_take]
            exact lessN_lt x t j (by omega) (by omega)
          have hgtB : ∀ y ∈ t.drop (lessN x t), x < y := fun y hy => by
            simp only [Bool.not_eq_true, List.any_eq_false, decide_eq_true_eq] at hany
            have := hany y hy; omega
          have hp : l[lo + A.2.length]? = some (x, d) := by
            rw [hl A.2.length (by omega), List.append_assoc, List.getElem?_append_right (Nat.le_refl _)]; simp
          have hpl : lo + A.2.length < l.length := by
            rcases Nat.lt_or_ge (lo + A.2.length) l.length with h | h
            · exact h
            · rw [List.getElem?_eq_none h] at hp; cases hp
          have hpe : l[lo + A.2.length] = (x, d) := by rw [List.getElem?_eq_getElem hpl] at hp; exact Option.some.inj hp
          have hgv : gv l (lo + A.2.length) = d := by rw [gv_eq l _ hpl, hpe]
          have hgk : gk l (lo + A.2.length) = x := by rw [gk_eq l _ hpl, hpe]
          have hge : ∀ j (q : IP), l[j]? = some q → gv l j = q.2 := fun j q h => by
            have hj : j < l.length := by
              rcases Nat.lt_or_ge j l.length with h' | h'
              · exact h'
              · rw [List.getElem?_eq_none h'] at h; cases h
            rw [gv_eq l j hj]
            rw [List.getElem?_eq_getElem hj] at h
            rw [Option.some.inj h]
          have htop : topS l lo (lo + (A.2.length + 1 + Bq.2.length)) = (lo + A.2.length, true) := topS_find l lo _ (lo + A.2.length) (by omega) (by omega) (fun j j1 j2 j3 => by
            rw [hgv]
            have hlj := hl (j - lo) (by omega)
            rw [show lo + (j - lo) = j from by omega] at hlj
            rcases Nat.lt_or_ge j (lo + A.2.length) with hj | hj
            · rw [List.append_assoc, List.getElem?_append_left (by omega), List.getElem?_eq_getElem (show j - lo < A.2.length by omega)] at hlj
              rw [hge j _ hlj]
              have := (ma _ (List.getElem_mem (show j - lo < A.2.length by omega))).2; omega
            · rw [List.getElem?_append_right (by simp; omega)] at hlj
              have hx : j - lo - (A.2 ++ [(x, d)]).length < Bq.2.length := by simp; omega
              rw [List.getElem?_eq_getElem hx] at hlj
              rw [hge j _ hlj]
              have := (mb _ (List.getElem_mem hx)).2; omega)
          have hend : lo + (A.2.length + 1 + Bq.2.length) = lo + A.2.length + 1 + Bq.2.length := by omega
          refine ⟨?_, ?_, ?_⟩
          · rw [List.pairwise_append, List.pairwise_append]
            refine ⟨⟨a1, by simp, fun p hp q hq => ?_⟩, b1, fun p hp q hq => ?_⟩
            · simp at hq; subst hq
              exact hltA _ (ma p hp).1
            · have h2 := hgtB _ (mb q hq).1
              rcases List.mem_append.1 hp with hp | hp
              · have := hltA _ (ma p hp).1; omega
              · simp at hp; subst hp; exact h2
          · rw [walkF_first l lo _ (by omega), htop]
            simp only
            rw [hgk, a2, hend, b2]
            simp
          · rw [ptR_node l lo _ d (by omega) (lo + A.2.length) htop hgv, a3, hend, b3]
            exact ⟨_, rfl⟩
theorem back_of (l : List IP) (h : (parOf l).2 = 0) : shapeOf (walkF l false 0 l.length) = (l, 0) := by
  obtain ⟨h1, h2, t, ht, _⟩ := parOf_len l h
  have hp := part_walk l (fun i j hi hj hij => mapRight_rise l h2 i j hi hj hij) l.length 0 l.length 0 t (by omega) (by omega) (Nat.le_refl _) ht
  have hl := walkF_len l false 0 l.length
  rw [shapeOf, if_neg (by omega), if_neg, show (walkF l false 0 l.length).length = l.length from by omega, hp, if_neg (by simp)]
  · simp
  · simp only [Classical.not_not]
    intro k hk
    obtain ⟨j, _, hj, rfl⟩ := walkF_mem l false 0 l.length k hk
    rw [gk_eq l j hj]
    exact mapRight_in l h2 _ (List.getElem_mem hj)
theorem shapeOf_bad (first : List Int) (h : (shapeOf first).2 ≠ 0) : (shapeOf first).1 = [] := by
  unfold shapeOf at h ⊢
  split
  · rfl
  · split
    · rfl
    · split
      · rfl
      · rename_i a b c
        rw [if_neg a, if_neg b, if_neg c] at h
        simp at h
end Go.Proofs.YtfgbbmjnjppfnaaDoor
namespace Go.Proofs.YtfgbbmjnjppfnaaDoor
open Go.ChangeShapes Go.WideShapes Go.ChangeAt Go.RowKit
set_option linter.unusedVariables false
set_option linter.unusedSimpArgs false

def keysM {α : Type} (kf : α → Int) : MT α → List Int
  | .nil => []
  | .node a l r => keysM kf l ++ [kf a] ++ keysM kf r
theorem keysM_len {α : Type} (kf : α → Int) : ∀ t : MT α, (keysM kf t).length = t.size
  | .nil => rfl
  | .node a l r => by simp [keysM, MT.size, keysM_len kf l, keysM_len kf r]; omega
theorem spotsBy_keys {α : Type} (kf : α → Int) : ∀ (t : MT α) (d : Int), (t.spotsBy kf d).map Prod.fst = keysM kf t
  | .nil, _ => rfl
  | .node a l r, d => by simp [MT.spotsBy, keysM, spotsBy_keys kf l, spotsBy_keys kf r]
def ptM {α : Type} : MT α → Nat → PT
  | .nil, _ => .nil
  | .node _ l r, off => .node (off + l.size) (ptM l off) (ptM r (off + l.size + 1))
theorem ptM_size {α : Type} : ∀ (t : MT α) (off : Nat), (ptM t off).size = t.size
  | .nil, _ => rfl
  | .node a l r, off => by simp [ptM, PT.size, MT.size, ptM_size l, ptM_size r]
theorem ptM_at {α : Type} : ∀ (t : MT α) (off : Nat), (ptM t off).At off
  | .nil, _ => trivial
  | .node a l r, off => ⟨by rw [ptM_size], ptM_at l off, ptM_at r _⟩
theorem ptM_deps {α : Type} (kf : α → Int) : ∀ (t : MT α) (off : Nat) (d : Int), (ptM t off).deps d = (t.spotsBy kf d).map Prod.snd
  | .nil, _, _ => rfl
  | .node a l r, off, d => by simp [ptM, PT.deps, MT.spotsBy, ptM_deps kf l, ptM_deps kf r]
/-- The spots of a tree whose keys rise are right. -/
theorem spotsBy_right {α : Type} (kf : α → Int) (t : MT α) (h1 : t.size ≤ 200) (h2 : (keysM kf t).Pairwise (fun a b => a < b)) (h3 : ∀ x ∈ keysM kf t, 0 ≤ x ∧ x ≤ 1000000) : parOf (t.spotsBy kf 0) = ((ptM t 0).pars (-1), 0) := by
  have hk := spotsBy_keys kf t 0
  have hl := MT.spotsBy_len kf t 0
  have hm : mapRight (t.spotsBy kf 0) = 0 := mapRight_of _ (by omega) (by rw [← hk] at h2; exact List.pairwise_map.1 h2) (fun x hx => h3 _ (by rw [← hk]; exact List.mem_map_of_mem hx))
  refine parOf_tree _ (ptM t 0) hm (ptM_at t 0) (by rw [ptM_size, hl]) fun j hj => ?_
  rw [ptM_deps kf, gv_eq _ j hj]
  simp [List.getElem?_eq_getElem hj]
end Go.Proofs.YtfgbbmjnjppfnaaDoor
namespace Go.Proofs.YtfgbbmjnjppfnaaDoor
open Go.ChangeShapes Go.WideShapes Go.ChangeAt Go.RowKit
set_option linter.unusedVariables false
set_option linter.unusedSimpArgs false

def ePtr : Enc (Option Addr) := ⟨1, fun p => [.pointer p], fun _ => rfl, fun _ u h => by simp at h; subst h; rfl⟩
theorem flat_ptr (l : List (Option Addr)) : l.flatMap ePtr.cells = l.map Value.pointer := by
  induction l with
  | nil => rfl
  | cons a t ih => rw [List.flatMap_cons, ih]; rfl
theorem AR.ptr {w : World} {g : Nat} {e : TypeId} {l : List (Option Addr)} (h : AR w g e ePtr l) {k : Nat} (hk : k < l.length) : w.cell? ⟨g, k, none⟩ = some (.pointer l[k]) := by
  have := h.cell k hk 0 (by decide)
  simpa [ePtr] using this
theorem AR.setPtr {w : World} {g : Nat} {e : TypeId} {l : List (Option Addr)} (h : AR w g e ePtr l) {k : Nat} (x : Option Addr) : AR (w.setCell ⟨g, k, none⟩ (.pointer x)) g e ePtr (l.set k x) := by
  unfold AR at h ⊢
  simp only [World.setCell, Array.getElem?_modify, h]
  simp [flat_ptr, List.map_set]

/-! Plain: the links that a list of parents makes, one by one. -/
def gI (up : List Int) (k : Nat) : Int := up.getD k 0
def lpF (up : List Int) : Nat → Nat → Option Nat
  | 0, _ => none
  | i + 1, k => if gI up i = k ∧ i < k then some i else lpF up i k
def rpF (up : List Int) : Nat → Nat → Option Nat
  | 0, _ => none
  | i + 1, k => if gI up i = k ∧ k ≤ i then some i else rpF up i k
def rtF (up : List Int) : Nat → Option Nat
  | 0 => none
  | i + 1 => if gI up i < 0 then some i else rtF up i
theorem lpF_none (up : List Int) (k : Nat) : ∀ i, (∀ j, j < i → j < k → gI up j ≠ k) → lpF up i k = none
  | 0, _ => rfl
  | i + 1, h => by
    rw [lpF, if_neg (fun ⟨a, b⟩ => h i (by omega) b a)]
    exact lpF_none up k i fun j a b => h j (by omega) b
theorem rpF_none (up : List Int) (k : Nat) : ∀ i, (∀ j, j < i → k ≤ j → gI up j ≠ k) → rpF up i k = none
  | 0, _ => rfl
  | i + 1, h => by
    rw [rpF, if_neg (fun ⟨a, b⟩ => h i (by omega) b a)]
    exact rpF_none up k i fun j a b => h j (by omega) b
theorem lpF_some (up : List Int) (k j : Nat) (hjk : j < k) (hg : gI up j = k) : ∀ i, j < i → (∀ m, m < i → m < k → gI up m = k → m = j) → lpF up i k = some j
  | 0, h, _ => by omega
  | i + 1, h, hu => by
    rw [lpF]
    split
    · next c => rw [hu i (by omega) c.2 c.1]
    · next c =>
      have : j ≠ i := by rintro rfl; exact c ⟨hg, hjk⟩
      exact lpF_some up k j hjk hg i (by omega) fun m a b c => hu m (by omega) b c
theorem rpF_some (up : List Int) (k j : Nat) (hjk : k ≤ j) (hg : gI up j = k) : ∀ i, j < i → (∀ m, m < i → k ≤ m → gI up m = k → m = j) → rpF up i k = some j
  | 0, h, _ => by omega
  | i + 1, h, hu => by
    rw [rpF]
    split
    · next c => rw [hu i (by omega) c.2 c.1]
    · next c =>
      have : j ≠ i := by rintro rfl; exact c ⟨hg, hjk⟩
      exact rpF_some up k j hjk hg i (by omega) fun m a b c => hu m (by omega) b c
theorem rtF_some (up : List Int) (j : Nat) (hg : gI up j < 0) : ∀ i, j < i → (∀ m, m < i → gI up m < 0 → m = j) → rtF up i = some j
  | 0, h, _ => by omega
  | i + 1, h, hu => by
    rw [rtF]
    split
    · next c => rw [hu i (by omega) c]
    · next c =>
      have : j ≠ i := by rintro rfl; exact c hg
      exact rtF_some up j hg i (by omega) fun m a b => hu m (by omega) b
def PT.root : PT → Option Nat
  | .nil => none
  | .node p _ _ => some p
theorem PT.root_in : ∀ (t : PT) (lo q : Nat), t.At lo → t.root = some q → lo ≤ q ∧ q < lo + t.size
  | .nil, _, _, _, h => by simp [root] at h
  | .node p l r, lo, q, ⟨hp, _, _⟩, h => by simp [root] at h; simp only [size]; omega
/-- Of the parents in a part: only its root's is the one given. -/
theorem PT.pars_in : ∀ (t : PT) (lo : Nat) (u : Int), t.At lo → ∀ j, j < t.size → ∃ v, (t.pars u)[j]? = some v ∧ ((t.root = some (lo + j) ∧ v = u) ∨ (t.root ≠ some (lo + j) ∧ (lo : Int) ≤ v ∧ v < lo + t.size))
  | .nil, _, _, _, j, h => by simp [size] at h
  | .node p l r, lo, u, ⟨hp, hl, hr⟩, j, h => by
    simp only [size] at h ⊢
    rw [PT.pars_node]
    rcases Nat.lt_trichotomy j l.size with hj | hj | hj
    · rw [if_pos hj]
      obtain ⟨v, h1, h2⟩ := PT.pars_in l lo p hl j hj
      refine ⟨v, h1, .inr ⟨by simp [root]; omega, ?_⟩⟩
      rcases h2 with ⟨_, rfl⟩ | ⟨_, h3⟩
      · constructor <;> push_cast <;> omega
      · constructor <;> push_cast <;> omega
    · rw [if_neg (by omega), if_pos hj]
      exact ⟨u, rfl, .inl ⟨by simp [root]; omega, rfl⟩⟩
    · rw [if_neg (by omega), if_neg (by omega)]
      obtain ⟨v, h1, h2⟩ := PT.pars_in r (p + 1) p hr (j - (l.size + 1)) (by omega)
      refine ⟨v, h1, .inr ⟨by simp [root]; omega, ?_⟩⟩
      rcases h2 with ⟨_, rfl⟩ | ⟨_, h3⟩
      · constructor <;> push_cast <;> omega
      · constructor <;> push_cast <;> omega
def mtP (ks : List Int) : PT → MT Int
  | .nil => .nil
  | .node p l r => .node (ks.getD p 0) (mtP ks l) (mtP ks r)
def adB (bl : List Nat) (o : Option Nat) : Option Addr := o.map fun j => ⟨bl.getD j 0, 0, none⟩
def fP (bl : List Nat) : PT → List Nat
  | .nil => []
  | .node p l r => bl.getD p 0 :: (fP bl l ++ fP bl r)
theorem fP_in (bl : List Nat) : ∀ (t : PT) (lo : Nat), t.At lo → ∀ x ∈ fP bl t, ∃ j, lo ≤ j ∧ j < lo + t.size ∧ x = bl.getD j 0
  | .nil, _, _, x, h => by simp [fP] at h
  | .node p l r, lo, ⟨hp, hl, hr⟩, x, h => by
    simp only [PT.size]
    simp only [fP, List.mem_cons, List.mem_append] at h
    rcases h with rfl | h | h
    · exact ⟨p, by omega, by omega, rfl⟩
    · obtain ⟨j, h1, h2, h3⟩ := fP_in bl l lo hl x h
      exact ⟨j, by omega, by omega, h3⟩
    · obtain ⟨j, h1, h2, h3⟩ := fP_in bl r (p + 1) hr x h
      exact ⟨j, by omega, by omega, h3⟩
theorem gI_of {up : List Int} {j : Nat} {v : Int} {m : List Int} {i : Nat} (h : gI up j = m.getD i 0) (hv : m[i]? = some v) : gI up j = v := by
  rw [h, List.getD_eq_getElem?_getD, hv]; rfl
theorem mtP_mr {w : World} {nt : TypeId} {E : Enc Int} (up ks : List Int) (bl : List Nat) (n : Nat) (hbl : ∀ i j, i < n → j < n → bl.getD i 0 = bl.getD j 0 → i = j)
    (hB : ∀ k, k < n → BC w (bl.getD k 0) nt (nodeC E (ks.getD k 0) (adB bl (lpF up n k)) (adB bl (rpF up n k)))) :
    ∀ (t : PT) (lo : Nat) (u : Int), t.At lo → lo + t.size ≤ n → (u < lo ∨ (lo : Int) + t.size ≤ u) → (∀ j, j < t.size → gI up (lo + j) = (t.pars u).getD j 0) →
      (∀ j, j < n → (j < lo ∨ lo + t.size ≤ j) → (gI up j < lo ∨ (lo : Int) + t.size ≤ gI up j)) → MR w nt E (mtP ks t) (adB bl t.root) (fP bl t)
  | .nil, lo, u, _, _, _, _, _ => ⟨rfl, rfl⟩
  | .node p l r, lo, u, ⟨hp, hl, hr⟩, hn, hu, hin, hout => by
    simp only [PT.size] at hn hu hin hout
    push_cast at hu hout
    have inL : ∀ j, j < l.size → gI up (lo + j) = (l.pars p).getD j 0 := fun j hj => by
      rw [hin j (by omega), List.getD_eq_getElem?_getD, List.getD_eq_getElem?_getD, PT.pars_node, if_pos hj]
    have inR : ∀ j, j < r.size → gI up (p + 1 + j) = (r.pars p).getD j 0 := fun j hj => by
      have h9 := hin (l.size + 1 + j) (by omega)
      rw [List.getD_eq_getElem?_getD, PT.pars_node, if_neg (by omega), if_neg (by omega), show l.size + 1 + j - (l.size + 1) = j from by omega, show lo + (l.size + 1 + j) = p + 1 + j from by omega] at h9
      rw [h9, List.getD_eq_getElem?_getD]
    have atP : gI up p = u := by
      have h9 := hin l.size (by omega)
      rw [List.getD_eq_getElem?_getD, PT.pars_node, if_neg (by omega), if_pos rfl, ← hp] at h9
      exact h9
    have valL : ∀ j, lo ≤ j → j < p → (l.root = some j ∧ gI up j = p) ∨ (l.root ≠ some j ∧ (lo : Int) ≤ gI up j ∧ gI up j < p) := fun j h1 h2 => by
      obtain ⟨v, hv, hc⟩ := PT.pars_in l lo p hl (j - lo) (by omega)
      have := gI_of (inL (j - lo) (by omega)) hv
      rw [show lo + (j - lo) = j from by omega] at this hc
      rw [this]
      rcases hc with hc | hc
      · exact .inl hc
      · exact .inr ⟨hc.1, hc.2.1, by have := hc.2.2; omega⟩
    have valR : ∀ j, p + 1 ≤ j → j < p + 1 + r.size → (r.root = some j ∧ gI up j = p) ∨ (r.root ≠ some j ∧ (p + 1 : Int) ≤ gI up j ∧ gI up j < p + 1 + r.size) := fun j h1 h2 => by
      obtain ⟨v, hv, hc⟩ := PT.pars_in r (p + 1) p hr (j - (p + 1)) (by omega)
      have := gI_of (inR (j - (p + 1)) (by omega)) hv
      rw [show p + 1 + (j - (p + 1)) = j from by omega] at this hc
      rw [this]
      rcases hc with hc | hc
      · exact .inl hc
      · exact .inr ⟨hc.1, by have := hc.2.1; push_cast at this; omega, by have := hc.2.2; push_cast at this; omega⟩
    have hout' : ∀ j, j < n → (j < lo ∨ p + 1 + r.size ≤ j) → (gI up j < lo ∨ (p : Int) + 1 + r.size ≤ gI up j) := fun j h1 h2 => by
      have := hout j h1 (by omega)
      omega
    have eL : lpF up n p = l.root := by
      cases hrt : l.root with
      | none =>
        refine lpF_none up p n fun j h1 h2 he => ?_
        rcases Nat.lt_or_ge j lo with h3 | h3
        · have := hout' j h1 (.inl h3); omega
        · rcases valL j h3 h2 with ⟨h4, _⟩ | ⟨_, h4⟩
          · rw [hrt] at h4; cases h4
          · omega
      | some q =>
        have hq := PT.root_in l lo q hl hrt
        have hgq : gI up q = p := by
          rcases valL q hq.1 (by omega) with h4 | h4
          · exact h4.2
          · exact absurd hrt h4.1
        refine lpF_some up p q (by omega) hgq n (by omega) fun m h1 h2 he => ?_
        rcases Nat.lt_or_ge m lo with h3 | h3
        · have := hout' m h1 (.inl h3); omega
        · rcases valL m h3 h2 with ⟨h4, _⟩ | ⟨_, h4⟩
          · rw [hrt] at h4; injection h4 with h4; exact h4.symm
          · omega
    have eR : rpF up n p = r.root := by
      cases hrt : r.root with
      | none =>
        refine rpF_none up p n fun j h1 h2 he => ?_
        rcases Nat.lt_or_ge p j with h9 | h9
        case inr =>
          obtain rfl : j = p := by omega
          rw [atP] at he; omega
        rcases Nat.lt_or_ge j (p + 1 + r.size) with h3 | h3
        · rcases valR j (by omega) h3 with ⟨h4, _⟩ | ⟨_, h4⟩
          · rw [hrt] at h4; cases h4
          · omega
        · have := hout' j h1 (.inr h3); omega
      | some q =>
        have hq := PT.root_in r (p + 1) q hr hrt
        have hgq : gI up q = p := by
          rcases valR q hq.1 (by omega) with h4 | h4
          · exact h4.2
          · exact absurd hrt h4.1
        refine rpF_some up p q (by omega) hgq n (by omega) fun m h1 h2 he => ?_
        rcases Nat.lt_or_ge p m with h9 | h9
        case inr =>
          obtain rfl : m = p := by omega
          rw [atP] at he; omega
        rcases Nat.lt_or_ge m (p + 1 + r.size) with h3 | h3
        · rcases valR m (by omega) h3 with ⟨h4, _⟩ | ⟨_, h4⟩
          · rw [hrt] at h4; injection h4 with h4; exact h4.symm
          · omega
        · have := hout' m h1 (.inr h3); omega
    have ihL := mtP_mr up ks bl n hbl hB l lo p hl (by omega) (by omega) inL fun j h1 h2 => by
      rcases h2 with h2 | h2
      · have := hout' j h1 (.inl h2); omega
      · rcases Nat.lt_trichotomy j p with h3 | h3 | h3
        · omega
        · subst h3; rw [atP]; omega
        · rcases Nat.lt_or_ge j (p + 1 + r.size) with h4 | h4
          · rcases valR j (by omega) h4 with ⟨_, h5⟩ | ⟨_, h5⟩ <;> omega
          · have := hout' j h1 (.inr h4); omega
    have ihR := mtP_mr up ks bl n hbl hB r (p + 1) p hr (by omega) (by push_cast; omega) inR fun j h1 h2 => by
      push_cast
      rcases h2 with h2 | h2
      · rcases Nat.lt_trichotomy j p with h3 | h3 | h3
        · rcases Nat.lt_or_ge j lo with h4 | h4
          · have := hout' j h1 (.inl h4); omega
          · rcases valL j h4 h3 with ⟨_, h5⟩ | ⟨_, h5⟩ <;> omega
        · subst h3; rw [atP]; omega
        · omega
      · have := hout' j h1 (.inr h2); omega
    have hb := hB p (by omega)
    rw [eL, eR] at hb
    refine MR.mk hb (fun h => ?_) (fun h => ?_) (fun x h h' => ?_) ihL ihR
    · obtain ⟨j, h1, h2, h3⟩ := fP_in bl l lo hl _ h
      have := hbl p j (by omega) (by omega) h3
      omega
    · obtain ⟨j, h1, h2, h3⟩ := fP_in bl r (p + 1) hr _ h
      have := hbl p j (by omega) (by omega) h3
      omega
    · obtain ⟨j, h1, h2, h3⟩ := fP_in bl l lo hl _ h
      obtain ⟨j', h4, h5, h6⟩ := fP_in bl r (p + 1) hr _ h'
      have := hbl j j' (by omega) (by omega) (h3.symm.trans h6)
      omega
theorem mtP_root (up : List Int) (t : PT) (n : Nat) (ha : t.At 0) (hs : t.size = n) (hu : up = t.pars (-1)) : rtF up n = t.root := by
  have hv : ∀ j, j < n → (t.root = some j ∧ gI up j = -1) ∨ (t.root ≠ some j ∧ 0 ≤ gI up j) := fun j hj => by
    obtain ⟨v, h1, h2⟩ := PT.pars_in t 0 (-1) ha j (by omega)
    have : gI up j = v := by rw [gI, hu, List.getD_eq_getElem?_getD, h1]; rfl
    rw [this]
    rw [Nat.zero_add] at h2
    rcases h2 with h2 | h2
    · exact .inl h2
    · exact .inr ⟨h2.1, by have := h2.2.1; push_cast at this; omega⟩
  cases t with
  | nil => simp [PT.size] at hs; subst hs; rfl
  | node p l r =>
    have hp := PT.root_in (.node p l r) 0 p ha rfl
    refine rtF_some up p ?_ n (by omega) fun m h1 h2 => ?_
    · rcases hv p (by omega) with h | h
      · omega
      · exact absurd rfl h.1
    · rcases hv m h1 with ⟨h, _⟩ | ⟨_, h⟩
      · simp [PT.root] at h; exact h.symm
      · omega
/-! The row of nodes. -/
def mkA (b : Nat) : Option Addr := some ⟨b, 0, none⟩
def arB (bl : List Nat) (n : Nat) : List (Option Addr) := bl.map mkA ++ List.replicate (n - bl.length) none
theorem arB_len (bl : List Nat) (n : Nat) (h : bl.length ≤ n) : (arB bl n).length = n := by simp [arB]; omega
theorem arB_set (bl : List Nat) (n b : Nat) (h : bl.length < n) : (arB bl n).set bl.length (mkA b) = arB (bl ++ [b]) n := by
  unfold arB
  rw [List.set_append_right _ _ (by simp), show n - bl.length = (n - (bl ++ [b]).length) + 1 from by simp; omega, List.replicate_succ]
  simp
theorem arB_at (bl : List Nat) (n k : Nat) (h : k < bl.length) (h2 : k < (arB bl n).length) : (arB bl n)[k] = mkA (bl.getD k 0) := by
  simp [arB, List.getElem_append_left, h]
def Bks (w : World) (nt : TypeId) (E : Enc Int) (ks : List Int) (bl : List Nat) (pl pr : Nat → Option Nat) : Prop := ∀ k, k < bl.length → BC w (bl.getD k 0) nt (nodeC E (ks.getD k 0) (adB bl (pl k)) (adB bl (pr k)))
def Inj (bl : List Nat) : Prop := ∀ i j, i < bl.length → j < bl.length → bl.getD i 0 = bl.getD j 0 → i = j
theorem Inj.snoc {bl : List Nat} {b : Nat} (h : Inj bl) (hb : ∀ k, k < bl.length → bl.getD k 0 < b) : Inj (bl ++ [b]) := by
  intro i j hi hj he
  simp only [List.length_append, List.length_cons, List.length_nil] at hi hj
  have e : ∀ k, k < bl.length → (bl ++ [b]).getD k 0 = bl.getD k 0 := fun k hk => by simp [List.getD_eq_getElem?_getD, List.getElem?_append_left hk]
  have e2 : (bl ++ [b]).getD bl.length 0 = b := by simp [List.getD_eq_getElem?_getD]
  rcases Nat.lt_or_ge i bl.length with h1 | h1
  · rcases Nat.lt_or_ge j bl.length with h2 | h2
    · rw [e i h1, e j h2] at he; exact h i j h1 h2 he
    · obtain rfl : j = bl.length := by omega
      rw [e i h1, e2] at he; have := hb i h1; omega
  · obtain rfl : i = bl.length := by omega
    rcases Nat.lt_or_ge j bl.length with h2 | h2
    · rw [e j h2, e2] at he; have := hb j h2; omega
    · omega
theorem getD_snoc_lt {bl : List Nat} {b k : Nat} (h : k < bl.length) : (bl ++ [b]).getD k 0 = bl.getD k 0 := by simp [List.getD_eq_getElem?_getD, List.getElem?_append_left h]
theorem getD_snoc_at {bl : List Nat} {b : Nat} : (bl ++ [b]).getD bl.length 0 = b := by simp [List.getD_eq_getElem?_getD]
theorem Bks.kp {w w' : World} {nt : TypeId} {E : Enc Int} {ks : List Int} {bl : List Nat} {pl pr : Nat → Option Nat} (h : Bks w nt E ks bl pl pr) (hk : Kp w w') : Bks w' nt E ks bl pl pr := fun k hl => (h k hl).kp hk
theorem Bks.snoc {w : World} {nt : TypeId} {E : Enc Int} {ks : List Int} {bl : List Nat} {b : Nat} (h : Bks w nt E ks bl (fun _ => none) (fun _ => none)) (hb : BC w b nt (nodeC E (ks.getD bl.length 0) none none)) : Bks w nt E ks (bl ++ [b]) (fun _ => none) (fun _ => none) := by
  intro k hk
  simp only [List.length_append, List.length_cons, List.length_nil] at hk
  rcases Nat.lt_or_ge k bl.length with h1 | h1
  · rw [getD_snoc_lt h1]; exact h k h1
  · obtain rfl : k = bl.length := by omega
    rw [getD_snoc_at]; exact hb
theorem nodeC_setl {E : Enc Int} (a : Int) (pl pr x : Option Addr) : (nodeC E a pl pr).set (lk E true) (.pointer x) = nodeC E a x pr := by
  have h := E.len a
  unfold nodeC lk
  rw [List.set_append_right _ _ (by simp [h])]
  simp [h]
theorem nodeC_setr {E : Enc Int} (a : Int) (pl pr x : Option Addr) : (nodeC E a pl pr).set (lk E false) (.pointer x) = nodeC E a pl x := by
  have h := E.len a
  unfold nodeC lk
  rw [List.set_append_right _ _ (by simp [h])]
  simp [h]
theorem Bks.set {w : World} {nt : TypeId} {E : Enc Int} {ks : List Int} {bl : List Nat} {pl pr pl' pr' : Nat → Option Nat} (h : Bks w nt E ks bl pl pr) (hi : Inj bl) (p : Nat) (hp : p < bl.length) (left : Bool) (o : Option Nat)
    (h1 : ∀ k, k < bl.length → k ≠ p → pl' k = pl k ∧ pr' k = pr k) (h2 : (if left then pl' p else pr' p) = o) (h3 : (if left then pr' p = pr p else pl' p = pl p)) :
    Bks (w.setCell ⟨bl.getD p 0, lk E left, none⟩ (.pointer (adB bl o))) nt E ks bl pl' pr' := by
  intro k hk
  by_cases hkp : k = p
  · subst hkp
    have := (h k hk).set (j := lk E left) (u := .pointer (adB bl o))
    cases left with
    | true => simp only [if_true] at h2 h3; rw [h2, h3]; rw [nodeC_setl] at this; exact this
    | false => simp only [Bool.false_eq_true, if_false] at h2 h3; rw [h2, h3]; rw [nodeC_setr] at this; exact this
  · obtain ⟨e1, e2⟩ := h1 k hk hkp
    rw [e1, e2]
    exact (h k hk).far fun e => hkp (hi k p hk hp e)
def vineT (l : List IP) : MT Int := if (parOf l).2 ≠ 0 then .nil else match ptR l 0 l.length 0 with | some t => mtP (l.map Prod.fst) t | none => .nil
def V1Rel (l : List IP) (w : World) (g : Nat) (pt nt : TypeId) (E : Enc Int) (iv : Value) (wr : World) : Prop :=
  ∃ (k : Nat) (bl : List Nat), k ≤ l.length ∧ iv = .int .i64 k ∧ bl.length = k ∧ AR wr g pt ePtr (arB bl l.length) ∧ Bks wr nt E (l.map Prod.fst) bl (fun _ => none) (fun _ => none) ∧ (∀ j, j < bl.length → g < bl.getD j 0) ∧ Inj bl ∧ Kp w wr
def V2Rel (l : List IP) (up : List Int) (bl : List Nat) (w : World) (g : Nat) (pt nt : TypeId) (E : Enc Int) (rv iv : Value) (wr : World) : Prop :=
  ∃ k : Nat, k ≤ l.length ∧ iv = .int .i64 k ∧ rv = .pointer (adB bl (rtF up k)) ∧ AR wr g pt ePtr (arB bl l.length) ∧ Bks wr nt E (l.map Prod.fst) bl (lpF up k) (rpF up k) ∧ Kp w wr
def VRPost (nt : TypeId) (l : List IP) (w : World) (e : Ending) (w' : World) : Prop :=
  ∃ p F, e = .returned (.tuple #[.pointer p, .int .i64 (parOf l).2]) ∧ MR w' nt eInt (vineT l) p F ∧ (∀ x ∈ F, w.heap.size ≤ x) ∧ Kp w w'
theorem zero_ptr' {P : Program} {e : TypeId} (h : (P.info? e).map (fun i => (i.zero, i.size, i.bytes)) = some (some (.pointer none), 1, 8)) : ∀ i z, P.info? e = some i → i.zero = some z → z.cells.toList = ePtr.cells none := zero_of h rfl
end Go.Proofs.YtfgbbmjnjppfnaaDoor
