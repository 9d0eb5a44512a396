/-
  heap.spots and its closure: what they answer. Conditions: each place has a depth (Dp); at most 1000 pairs.
  hedgref.HeapTree: what it answers. Conditions: the list reads as l (RD), of fewer than 2^30 pairs.
-/
import Derived.Test.YthbapflabjogkaaHeapOneM19
import Derived.Laws.EntriesVeiled
import Derived.Test.YthbapflabjogkaaHeapOneM5

namespace Go.Proofs.Ythbapflabjogkaa
open Go.ChangeShapes Go.WideShapes Go.ChangeAt Go.RowKit
set_option linter.unusedVariables false
set_option linter.unusedSimpArgs false

/-- How many stand above, by who stands next above. -/
inductive Dp (up : List Int) : Int → Int → Prop where
  | base (k : Int) : k < 0 → Dp up k (-1)
  | step (k : Nat) (d : Int) (h : k < up.length) : Dp up up[k] d → Dp up (k : Int) (d + 1)
theorem Dp.ge {up : List Int} {k d : Int} (h : Dp up k d) : -1 ≤ d := by
  induction h with
  | base => omega
  | step => omega

set_option maxHeartbeats 400000 in
theorem depth_any (up : List Int) (b6 b3 g og c : Nat) (fv : Value) (hfv : fv = .func (.func 37) #[] #[.pointer (some ⟨b6, 0, none⟩), .pointer (some ⟨b3, 0, none⟩)]) (k d : Int) (h : Dp up k d) :
    ∀ w : World, d ≤ 1000000 → w.cell? ⟨b6, 0, none⟩ = some fv → w.cell? ⟨b3, 0, none⟩ = some (.slice (some ⟨g, og, none⟩) up.length c) → (∀ j (hj : j < up.length), w.cell? ⟨g, og + j, none⟩ = some (.int .i64 up[j])) →
    Calls Try.prog 37 #[.int .i64 k, .pointer (some ⟨b6, 0, none⟩), .pointer (some ⟨b3, 0, none⟩)] w (Drew (.int .i64 d) w) := by
  induction h with
  | base k hk =>
    intro w hd c6 c3 cu
    clear cu
    go_enter Try.func37, Try.ntmps37
    go_wp2
    go_ret
    exact ⟨rfl, 0, rfl⟩
  | step k d hk hdp ih =>
    intro w hd c6 c3 cu
    have hge := hdp.ge
    have cu' := cu k hk
    have IH := hide (fun n => ih (w.drewN n) (by omega) c6 c3 cu)
    clear ih cu
    subst hfv
    have hk' : (k : Int) < (up.length : Int) := by omega
    have hk0 : (0 : Int) ≤ (k : Int) := by omega
    have hw : IntKind.i64.wrap (d + 1) = d + 1 := IntWalk.i64_in _ (by omega)
    go_enter Try.func37, Try.ntmps37
    go_wp2_with fail
    go_quiet ((go_at_call 37; exact Calls.quiet_of (IH.out _)))
    go_wp2
    go_ret
    exact ⟨rfl, _, rfl⟩

def dl (l : List IP) (D : Nat → Int) : List IP := (List.range l.length).map fun k => ((l.getD k (0, 0)).1, D k)
theorem dl_len (l : List IP) (D : Nat → Int) : (dl l D).length = l.length := by simp [dl]
theorem dl_at (l : List IP) (D : Nat → Int) (k : Nat) (h : k < l.length) : (dl l D)[k]'(by rw [dl_len]; exact h) = (l[k].1, D k) := by
  simp [dl, List.getD_eq_getElem?_getD, List.getElem?_eq_getElem h]
def DRel (l : List IP) (D : Nat → Int) (w : World) (u i : Value) (wr : World) : Prop :=
  ∃ k : Nat, k ≤ l.length ∧ i = .int .i64 k ∧ AR wr (w.heap.size + 1) 51 ePair (part (dl l D) (0, 0) k) ∧ Kp w wr ∧
    wr.cell? ⟨w.heap.size, 0, none⟩ = some u ∧ wr.cell? ⟨w.heap.size + 2, 0, none⟩ = some (.func (.func 37) #[] #[.pointer (some ⟨w.heap.size + 2, 0, none⟩), .pointer (some ⟨w.heap.size, 0, none⟩)]) ∧ w.heap.size + 2 < wr.heap.size

set_option maxRecDepth 100000 in
set_option maxHeartbeats 1000000 in
theorem hspots_any (l : List IP) (up : List Int) (D : Nat → Int) (v u : Value) (w : World) (hr : RD w ePair v l) (hu : RD w eInt u up) (hn : l.length ≤ 1000) (hul : up.length = l.length)
    (hD : ∀ k : Nat, k < l.length → Dp up (k : Int) (D k) ∧ D k ≤ 1000000) : Calls Try.prog 25 #[v, u] w (RetAR 51 ePair (dl l D) w) := by
  obtain ⟨A, c, rfl, hc, hm⟩ := hr.shape
  obtain ⟨A2, c2, rfl, hc2, hm2⟩ := hu.shape
  obtain ⟨C, hC, hmk⟩ := run_mk row_spot (0, 0) zero_spot l.length (by omega) (by simp [maxLen]; omega)
  have HR := hide hr
  have HU := hide hu
  have HD := hide hD
  have HUL := hide hul
  clear hr hu hD hul
  go_enter Try.func25, Try.ntmps25
  go_wp2
  go_loopw [15] (DRel l D w (.slice A2 up.length c2)) (fun i _ => l.length - (intOf i).toNat)
  case atStart =>
    refine ⟨0, by omega, rfl, ?_, ?_, ?_, ?_, ?_⟩
    · rw [part_zero, dl_len]
      have h := (AR.made (e := 51) (W := w.alloc (.cells #[.slice A2 up.length c2] 23)) hC)
      simp only [World.size_alloc] at h
      exact h.alloc
    · (focus ((repeat (first | (with_reducible assumption) | (with_reducible exact Kp.refl _) | (with_reducible apply Kp.drew) | (with_reducible apply Kp.drewN) | ((with_reducible apply Kp.setR); (focus (first | (with_reducible assumption) | (simp; done) | (simp; omega)))) | (with_reducible apply Kp.alloc) | ((with_reducible apply Kp.call); (with_reducible assumption)) | ((with_reducible apply Kp.app); (with_reducible assumption)))); done))
    · simp [go_sem]
    · simp [go_sem]
    · simp
  case round =>
    obtain ⟨k, hk, rfl, ha, hkp, c3, c6, hsz⟩ := hrel
    have HA := hide ha
    clear ha
    by_cases hlt : k < l.length
    · obtain ⟨b, o, rfl, hb, c0, c1⟩ := (HR.out.kp hkp).pair hlt
      have hpl : (part (dl l D) (0, 0) k).length = l.length := by rw [part_len _ _ _ (by rw [dl_len]; omega), dl_len]
      obtain ⟨x0, y0⟩ : ∃ x, wr.cell? ⟨w.heap.size + 1, k * 2, none⟩ = some x := ⟨_, HA.out.cell k (by omega) 0 (by decide)⟩
      obtain ⟨x1, y1⟩ : ∃ x, wr.cell? ⟨w.heap.size + 1, k * 2 + 1, none⟩ = some x := ⟨_, HA.out.cell k (by omega) 1 (by decide)⟩
      have f0 : wr.frozen? ⟨w.heap.size + 1, k * 2, none⟩ = false := HA.out.frozen _
      have f1 : wr.frozen? ⟨w.heap.size + 1, k * 2 + 1, none⟩ = false := HA.out.frozen _
      have hg : w.heap.size + 1 < wr.heap.size := HA.out.lt
      have hk2 : (k : Int) < (l.length : Int) := by omega
      have hn1 : ¬ wr.heap.size = w.heap.size + 1 := by omega
      have hn2 : ¬ w.heap.size + 1 = wr.heap.size := by omega
      have HC : Hid (∀ W, Kp (wr.alloc (.cells #[.int .i64 l[k].1, .int .i64 l[k].2] 37)) W → Calls Try.prog 37 #[.int .i64 (k : Int), .pointer (some ⟨w.heap.size + 2, 0, none⟩), .pointer (some ⟨w.heap.size, 0, none⟩)] W (Drew (.int .i64 (D k)) W)) :=
        hide fun W h => by
          have hh : Kp wr W := ((Kp.refl wr).alloc).trans h
          have hul := HUL.out
          obtain ⟨b2, o2, e2, _, _⟩ := (HU.out.kp hkp).int (k := 0) (by omega)
          subst e2
          refine depth_any up (w.heap.size + 2) w.heap.size b2 o2 c2 _ rfl k (D k) (HD.out k hlt).1 W (HD.out k hlt).2 (hh.cell c6) (hh.cell c3) fun j hj => ?_
          obtain ⟨b4, o4, e4, _, q⟩ := ((HU.out.kp hkp).kp hh).int hj
          injection e4 with e4
          injection e4 with e5 e6
          subst e5 e6
          exact q
      have K0 := Kp.refl (wr.alloc (.cells #[.int .i64 l[k].1, .int .i64 l[k].2] 37))
      go_wp2_with fail
      go_region_held3 (fun w' => w'.cell? ⟨wr.heap.size, 0, none⟩ = some (.int .i64 l[k].1) ∧ w'.cell? ⟨w.heap.size + 2, 0, none⟩ = some (.func (.func 37) #[] #[.pointer (some ⟨w.heap.size + 2, 0, none⟩), .pointer (some ⟨w.heap.size, 0, none⟩)]))
        (first | go_keep | fail)
        (first
          | (go_at_call 37; refine (HC.out _ ?_).mono ?_; (go_split_ands; (focus ((repeat (first | (with_reducible assumption) | (with_reducible exact Kp.refl _) | (with_reducible apply Kp.drew) | (with_reducible apply Kp.drewN) | ((with_reducible apply Kp.setR); (focus (first | (with_reducible assumption) | (simp; done) | (simp; omega)))) | (with_reducible apply Kp.alloc) | ((with_reducible apply Kp.call); (with_reducible assumption)) | ((with_reducible apply Kp.app); (with_reducible assumption)))); done))); rintro e w1 ⟨rfl, n1, rfl⟩))
      go_wp2
      go_roundw
      case rel =>
        refine ⟨k + 1, by omega, by go_num, ?_, ?_, ?_, ?_, ?_⟩
        · rw [← part_set _ _ k (by rw [dl_len]; exact hlt), dl_at l D k hlt]
          exact AR.setPair (HA.out.alloc.drewN) (l[k].1, D k)
        · exact Kp.setR (by simp) (Kp.setR (by simp) (by (focus ((repeat (first | (with_reducible assumption) | (with_reducible exact Kp.refl _) | (with_reducible apply Kp.drew) | (with_reducible apply Kp.drewN) | ((with_reducible apply Kp.setR); (focus (first | (with_reducible assumption) | (simp; done) | (simp; omega)))) | (with_reducible apply Kp.alloc) | ((with_reducible apply Kp.call); (with_reducible assumption)) | ((with_reducible apply Kp.app); (with_reducible assumption)))); done))))
        · simp [*, World.cell?_alloc_some, World.cell?_setCell_far]
        · simp [*, World.cell?_alloc_some, World.cell?_setCell_far]
        · simp; omega
      case measure => simp [intOf]; omega
    · have hkl : k = l.length := by omega
      go_wp2
      go_ret
      subst hkl
      refine ⟨w.heap.size + 1, by rw [dl_len]; rfl, by omega, ?_, hkp.bel⟩
      have h := HA.out
      rwa [show l.length = (dl l D).length from (dl_len l D).symm, part_end] at h
end Go.Proofs.Ythbapflabjogkaa
namespace Go.Proofs.Ythbapflabjogkaa
open Go.ChangeShapes Go.WideShapes Go.ChangeAt Go.RowKit
set_option linter.unusedVariables false
set_option linter.unusedSimpArgs false

/-- The place of the first pair with the greatest value, from a place and a best one on. -/
def amax (l : List IP) : Nat → Nat → Nat → Nat
  | 0, _, at_ => at_
  | n + 1, k, at_ => amax l n (k + 1) (if (l.getD at_ (0, 0)).2 < (l.getD k (0, 0)).2 then k else at_)
def top (l : List IP) : Nat := amax l l.length 0 0
theorem amax_lt (l : List IP) : ∀ n k a, a < l.length → k + n ≤ l.length → amax l n k a < l.length
  | 0, _, a, h, _ => h
  | n + 1, k, a, h, hk => by
    unfold amax
    split
    · exact amax_lt l n (k + 1) k (by omega) (by omega)
    · exact amax_lt l n (k + 1) a h (by omega)
theorem top_lt (l : List IP) (h : l ≠ []) : top l < l.length := amax_lt l l.length 0 0 (List.length_pos_iff.2 h) (by omega)
theorem amax_step (l : List IP) (k a : Nat) (h : k < l.length) (ha : a < l.length) : amax l (l.length - k) k a = amax l (l.length - (k + 1)) (k + 1) (if l[a].2 < l[k].2 then k else a) := by
  rw [show l.length - k = (l.length - (k + 1)) + 1 from by omega, amax]
  simp [List.getD_eq_getElem?_getD, List.getElem?_eq_getElem h, List.getElem?_eq_getElem ha]

def heapTree (l : List IP) : T :=
  if h : l = [] then .nil
  else
    have := top_lt l h
    .node (l[top l]'(top_lt l h)).1 (heapTree (l.take (top l))) (heapTree (l.drop (top l + 1)))
termination_by l.length
decreasing_by
  · simp; omega
  · simp; omega
theorem heapTree_nil : heapTree [] = .nil := by rw [heapTree]; simp
theorem heapTree_cons (l : List IP) (h : l ≠ []) : heapTree l = .node (l[top l]'(top_lt l h)).1 (heapTree (l.take (top l))) (heapTree (l.drop (top l + 1))) := by
  rw [heapTree, dif_neg h]
theorem heapTree_size (l : List IP) : (heapTree l).size = l.length := by
  by_cases h : l = []
  · subst h; rw [heapTree_nil]; rfl
  · have hl := top_lt l h
    rw [heapTree_cons l h, T.size, heapTree_size (l.take (top l)), heapTree_size (l.drop (top l + 1))]
    simp; omega
termination_by l.length
decreasing_by
  · simp; omega
  · simp; omega

def HRel (l : List IP) (w : World) (a i : Value) (wr : World) : Prop :=
  ∃ (k m : Nat), k ≤ l.length ∧ m < l.length ∧ i = .int .i64 k ∧ a = .int .i64 m ∧ amax l (l.length - k) k m = top l ∧ Kp w wr

set_option maxRecDepth 100000 in
set_option maxHeartbeats 1000000 in
theorem heapTree_any (n : Nat) : ∀ (l : List IP) (v : Value) (w : World), l.length ≤ n → n ≤ 1073741824 → RD w ePair v l → Calls Try.prog 15 #[v] w (RetTR (heapTree l) w) := by
  induction n with
  | zero =>
    intro l v w h0 hn hr
    have hl : l = [] := List.eq_nil_of_length_eq_zero (by omega)
    subst hl
    obtain ⟨A, c, rfl, hc, hm⟩ := hr.shape
    go_enter Try.func15, Try.ntmps15
    go_wp2
    go_ret
    exact ⟨_, rfl, by rw [heapTree_nil]; rfl, Below.refl _ _⟩
  | succ n ih =>
    intro l v w h0 hn hr
    have IH := hide ih
    clear ih
    obtain ⟨A, c, rfl, hc, hm⟩ := hr.shape
    by_cases hl : l.length = 0
    · have hl' : l = [] := List.eq_nil_of_length_eq_zero hl
      subst hl'
      go_enter Try.func15, Try.ntmps15
      go_wp2
      go_ret
      exact ⟨_, rfl, by rw [heapTree_nil]; rfl, Below.refl _ _⟩
    · have hne : l ≠ [] := by rintro rfl; exact hl rfl
      have hlb : ((l.length : Int) == 0) = false := by simp; omega
      have HR := hide hr
      clear hr
      have hpos : 0 < l.length := by omega
      have hl' := hide hl
      have hne' := hide hne
      clear hl hne
      go_enter Try.func15, Try.ntmps15
      go_wp2
      go_loopw [3, 11] (HRel l w) (fun a i wr => l.length - (intOf i).toNat)
      case atStart => exact ⟨0, 0, by omega, hpos, rfl, rfl, rfl, Kp.refl _⟩
      case round =>
        obtain ⟨k, m, hk, hml, rfl, rfl, htop, hkp⟩ := hrel
        have htop' := hide htop
        clear htop
        by_cases hlt : k < l.length
        · obtain ⟨b, o, rfl, hb, c0, c1⟩ := (HR.out.kp hkp).pair hlt
          obtain ⟨b2, o2, e2, hb2, d0, d1⟩ := (HR.out.kp hkp).pair hml
          injection e2 with e2
          injection e2 with e3 e4
          subst e3 e4
          have hst := amax_step l k m hlt hml
          by_cases hgt : l[m].2 < l[k].2
          · rw [if_pos hgt] at hst
            have hst' := hide hst
            clear hst
            go_wp2_with fail
            go_quiet (fail)
            go_wp2
            go_roundw
            case rel => exact ⟨k + 1, k, by omega, by omega, by go_num, rfl, by rw [← hst'.out, htop'.out], (by (focus ((repeat (first | (with_reducible assumption) | (with_reducible exact Kp.refl _) | (with_reducible apply Kp.drew) | (with_reducible apply Kp.drewN) | ((with_reducible apply Kp.setR); (focus (first | (with_reducible assumption) | (simp; done) | (simp; omega)))) | (with_reducible apply Kp.alloc) | ((with_reducible apply Kp.call); (with_reducible assumption)) | ((with_reducible apply Kp.app); (with_reducible assumption)))); done)))⟩
            case measure => simp [intOf]; omega
          · rw [if_neg hgt] at hst
            have hst' := hide hst
            clear hst
            go_wp2_with fail
            go_quiet (fail)
            go_wp2
            go_roundw
            case rel => exact ⟨k + 1, m, by omega, by omega, by go_num, rfl, by rw [← hst'.out, htop'.out], (by (focus ((repeat (first | (with_reducible assumption) | (with_reducible exact Kp.refl _) | (with_reducible apply Kp.drew) | (with_reducible apply Kp.drewN) | ((with_reducible apply Kp.setR); (focus (first | (with_reducible assumption) | (simp; done) | (simp; omega)))) | (with_reducible apply Kp.alloc) | ((with_reducible apply Kp.call); (with_reducible assumption)) | ((with_reducible apply Kp.app); (with_reducible assumption)))); done)))⟩
            case measure => simp [intOf]; omega
        · have hm' : m = top l := by
            have := htop'.out
            rwa [show l.length - k = 0 from by omega] at this
          have hm'' := hide hm'
          clear hm'
          obtain ⟨b, o, rfl, hb, c0, c1⟩ := (HR.out.kp hkp).pair hml
          have b1 : (m : Int) < (l.length : Int) := by omega
          have b2 : (m : Int) ≤ (c : Int) := by omega
          have b3 : (0 : Int) ≤ (m : Int) := by omega
          have b4 : (m : Int) + 1 ≤ (l.length : Int) := by omega
          have b5 : (0 : Int) ≤ (m : Int) + 1 := by omega
          have KS : Hid (∀ W', Kp wr W' → (W'.cell? ⟨b, o + m * 2, none⟩ = some (.int .i64 l[m].1) ∧ Kp wr W')) := hide fun W' h => ⟨h.cell c0, h⟩
          obtain ⟨A2, hif⟩ : ∃ A2, (if c = m + 1 then some (⟨b, o, none⟩ : Addr) else some ⟨b, o + (m + 1) * 2, none⟩) = A2 := ⟨_, rfl⟩
          have HC1 := hide (fun W (h : Kp wr W) => IH.out (l.take m) (.slice (some ⟨b, o, none⟩) m c) W (by simp; omega) (by omega) (((HR.out.kp hkp).kp h).takeS (by omega)))
          have HC2 := hide (fun W (h : Kp wr W) => IH.out (l.drop (m + 1)) (.slice A2 (l.length - (m + 1)) (c - (m + 1))) W (by simp; omega) (by omega) (((HR.out.kp hkp).kp h).dropS (by omega) rfl hif))
          have tn : ((m : Int) + 1).toNat = m + 1 := by omega
          have hw : IntKind.i64.wrap ((m : Int) + 1) = (m : Int) + 1 := IntWalk.i64_in _ (by omega)
          have K0 := Kp.refl wr
          go_wp2_with fail
          go_region_held3 (fun w' => w'.cell? ⟨b, o + m * 2, none⟩ = some (.int .i64 l[m].1) ∧ Kp wr w')
            ((go_split_ands; refine KS.out _ ?_; (focus ((repeat (first | (with_reducible assumption) | (with_reducible exact Kp.refl _) | (with_reducible apply Kp.drew) | (with_reducible apply Kp.drewN) | ((with_reducible apply Kp.setR); (focus (first | (with_reducible assumption) | (simp; done) | (simp; omega)))) | (with_reducible apply Kp.alloc) | ((with_reducible apply Kp.call); (with_reducible assumption)) | ((with_reducible apply Kp.app); (with_reducible assumption)))); done))))
            (first
              | (go_at_call 15; (with_reducible refine (HC1.out _ ?_).mono ?_); (go_split_ands; (focus ((repeat (first | (with_reducible assumption) | (with_reducible exact Kp.refl _) | (with_reducible apply Kp.drew) | (with_reducible apply Kp.drewN) | ((with_reducible apply Kp.setR); (focus (first | (with_reducible assumption) | (simp; done) | (simp; omega)))) | (with_reducible apply Kp.alloc) | ((with_reducible apply Kp.call); (with_reducible assumption)) | ((with_reducible apply Kp.app); (with_reducible assumption)))); done))); rintro e w1 ⟨v1, rfl, ht1, hb1⟩)
              | (go_at_call 15; (with_reducible refine (HC2.out _ ?_).mono ?_); (go_split_ands; (focus ((repeat (first | (with_reducible assumption) | (with_reducible exact Kp.refl _) | (with_reducible apply Kp.drew) | (with_reducible apply Kp.drewN) | ((with_reducible apply Kp.setR); (focus (first | (with_reducible assumption) | (simp; done) | (simp; omega)))) | (with_reducible apply Kp.alloc) | ((with_reducible apply Kp.call); (with_reducible assumption)) | ((with_reducible apply Kp.app); (with_reducible assumption)))); done))); rintro e w2 ⟨v2, rfl, ht2, hb2⟩))
          all_goals
            go_wp2
            go_ret
            refine ⟨some ⟨w2.heap.size, 0, none⟩, rfl, ?_, (hkp.trans (by go_split_ands; (focus ((repeat (first | (with_reducible assumption) | (with_reducible exact Kp.refl _) | (with_reducible apply Kp.drew) | (with_reducible apply Kp.drewN) | ((with_reducible apply Kp.setR); (focus (first | (with_reducible assumption) | (simp; done) | (simp; omega)))) | (with_reducible apply Kp.alloc) | ((with_reducible apply Kp.call); (with_reducible assumption)) | ((with_reducible apply Kp.app); (with_reducible assumption)))); done)))).bel⟩
            rw [heapTree_cons l hne'.out]
            have e := hm''.out
            subst e
            exact TR.mk (ht1.below hb2) ht2 _
end Go.Proofs.Ythbapflabjogkaa
