/-
  heap.spots and its closure: what they answer. Conditions: each place has a depth (Dp); at most 1000 pairs.
-/
import Derived.Test.YthbapflabjogkaaBuilt
import Derived.Laws.EntriesVeiled
namespace Go.Proofs.Ythbapflabjogkaa
open Go.ChangeShapes Go.WideShapes Go.ChangeAt Go.RowKit
set_option linter.unusedVariables false
set_option linter.unusedSimpArgs false

/-- How many stand above, by who stands next above. -/
inductive Dp (up : List Int) : Int → Int → Prop where
  | base (k : Int) : k < 0 → Dp up k (-1)
  | step (k : Nat) (d : Int) (h : k < up.length) : Dp up up[k] d → Dp up (k : Int) (d + 1)
theorem Dp.ge {up : List Int} {k d : Int} (h : Dp up k d) : -1 ≤ d := by
  induction h with
  | base => omega
  | step => omega

set_option maxHeartbeats 400000 in
theorem depth_any (up : List Int) (b6 b3 g og c : Nat) (fv : Value) (hfv : fv = .func (.func 37) #[] #[.pointer (some ⟨b6, 0, none⟩), .pointer (some ⟨b3, 0, none⟩)]) (k d : Int) (h : Dp up k d) :
    ∀ w : World, d ≤ 1000000 → w.cell? ⟨b6, 0, none⟩ = some fv → w.cell? ⟨b3, 0, none⟩ = some (.slice (some ⟨g, og, none⟩) up.length c) → (∀ j (hj : j < up.length), w.cell? ⟨g, og + j, none⟩ = some (.int .i64 up[j])) →
    Calls Try.prog 37 #[.int .i64 k, .pointer (some ⟨b6, 0, none⟩), .pointer (some ⟨b3, 0, none⟩)] w (Drew (.int .i64 d) w) := by
  induction h with
  | base k hk =>
    intro w hd c6 c3 cu
    clear cu
    go_enter Try.func37, Try.ntmps37
    go_wp2
    go_ret
    exact ⟨rfl, 0, rfl⟩
  | step k d hk hdp ih =>
    intro w hd c6 c3 cu
    have hge := hdp.ge
    have cu' := cu k hk
    have IH := hide (fun n => ih (w.drewN n) (by omega) c6 c3 cu)
    clear ih cu
    subst hfv
    have hk' : (k : Int) < (up.length : Int) := by omega
    have hk0 : (0 : Int) ≤ (k : Int) := by omega
    have hw : IntKind.i64.wrap (d + 1) = d + 1 := IntWalk.i64_in _ (by omega)
    go_enter Try.func37, Try.ntmps37
    go_wp2_with fail
    go_quiet ((go_at_call 37; exact Calls.quiet_of (IH.out _)))
    go_wp2
    go_ret
    exact ⟨rfl, _, rfl⟩

def dl (l : List IP) (D : Nat → Int) : List IP := (List.range l.length).map fun k => ((l.getD k (0, 0)).1, D k)
theorem dl_len (l : List IP) (D : Nat → Int) : (dl l D).length = l.length := by simp [dl]
theorem dl_at (l : List IP) (D : Nat → Int) (k : Nat) (h : k < l.length) : (dl l D)[k]'(by rw [dl_len]; exact h) = (l[k].1, D k) := by
  simp [dl, List.getD_eq_getElem?_getD, List.getElem?_eq_getElem h]
def DRel (l : List IP) (D : Nat → Int) (w : World) (u i : Value) (wr : World) : Prop :=
  ∃ k : Nat, k ≤ l.length ∧ i = .int .i64 k ∧ AR wr (w.heap.size + 1) 51 ePair (part (dl l D) (0, 0) k) ∧ Kp w wr ∧
    wr.cell? ⟨w.heap.size, 0, none⟩ = some u ∧ wr.cell? ⟨w.heap.size + 2, 0, none⟩ = some (.func (.func 37) #[] #[.pointer (some ⟨w.heap.size + 2, 0, none⟩), .pointer (some ⟨w.heap.size, 0, none⟩)]) ∧ w.heap.size + 2 < wr.heap.size

set_option maxRecDepth 100000 in
set_option maxHeartbeats 1000000 in
theorem hspots_any (l : List IP) (up : List Int) (D : Nat → Int) (v u : Value) (w : World) (hr : RD w ePair v l) (hu : RD w eInt u up) (hn : l.length ≤ 1000) (hul : up.length = l.length)
    (hD : ∀ k : Nat, k < l.length → Dp up (k : Int) (D k) ∧ D k ≤ 1000000) : Calls Try.prog 25 #[v, u] w (RetAR 51 ePair (dl l D) w) := by
  obtain ⟨A, c, rfl, hc, hm⟩ := hr.shape
  obtain ⟨A2, c2, rfl, hc2, hm2⟩ := hu.shape
  obtain ⟨C, hC, hmk⟩ := run_mk row_spot (0, 0) zero_spot l.length (by omega) (by simp [maxLen]; omega)
  have HR := hide hr
  have HU := hide hu
  have HD := hide hD
  have HUL := hide hul
  clear hr hu hD hul
  go_enter Try.func25, Try.ntmps25
  go_wp2
  go_loopw [15] (DRel l D w (.slice A2 up.length c2)) (fun i _ => l.length - (intOf i).toNat)
  case atStart =>
    refine ⟨0, by omega, rfl, ?_, ?_, ?_, ?_, ?_⟩
    · rw [part_zero, dl_len]
      have h := (AR.made (e := 51) (W := w.alloc (.cells #[.slice A2 up.length c2] 23)) hC)
      simp only [World.size_alloc] at h
      exact h.alloc
    · (focus ((repeat (first | (with_reducible assumption) | (with_reducible exact Kp.refl _) | (with_reducible apply Kp.drew) | (with_reducible apply Kp.drewN) | ((with_reducible apply Kp.setR); (focus (first | (with_reducible assumption) | (simp; done) | (simp; omega)))) | (with_reducible apply Kp.alloc) | ((with_reducible apply Kp.call); (with_reducible assumption)) | ((with_reducible apply Kp.app); (with_reducible assumption)))); done))
    · simp [go_sem]
    · simp [go_sem]
    · simp
  case round =>
    obtain ⟨k, hk, rfl, ha, hkp, c3, c6, hsz⟩ := hrel
    have HA := hide ha
    clear ha
    by_cases hlt : k < l.length
    · obtain ⟨b, o, rfl, hb, c0, c1⟩ := (HR.out.kp hkp).pair hlt
      have hpl : (part (dl l D) (0, 0) k).length = l.length := by rw [part_len _ _ _ (by rw [dl_len]; omega), dl_len]
      obtain ⟨x0, y0⟩ : ∃ x, wr.cell? ⟨w.heap.size + 1, k * 2, none⟩ = some x := ⟨_, HA.out.cell k (by omega) 0 (by decide)⟩
      obtain ⟨x1, y1⟩ : ∃ x, wr.cell? ⟨w.heap.size + 1, k * 2 + 1, none⟩ = some x := ⟨_, HA.out.cell k (by omega) 1 (by decide)⟩
      have f0 : wr.frozen? ⟨w.heap.size + 1, k * 2, none⟩ = false := HA.out.frozen _
      have f1 : wr.frozen? ⟨w.heap.size + 1, k * 2 + 1, none⟩ = false := HA.out.frozen _
      have hg : w.heap.size + 1 < wr.heap.size := HA.out.lt
      have hk2 : (k : Int) < (l.length : Int) := by omega
      have hn1 : ¬ wr.heap.size = w.heap.size + 1 := by omega
      have hn2 : ¬ w.heap.size + 1 = wr.heap.size := by omega
      have HC : Hid (∀ W, Kp (wr.alloc (.cells #[.int .i64 l[k].1, .int .i64 l[k].2] 37)) W → Calls Try.prog 37 #[.int .i64 (k : Int), .pointer (some ⟨w.heap.size + 2, 0, none⟩), .pointer (some ⟨w.heap.size, 0, none⟩)] W (Drew (.int .i64 (D k)) W)) :=
        hide fun W h => by
          have hh : Kp wr W := ((Kp.refl wr).alloc).trans h
          have hul := HUL.out
          obtain ⟨b2, o2, e2, _, _⟩ := (HU.out.kp hkp).int (k := 0) (by omega)
          subst e2
          refine depth_any up (w.heap.size + 2) w.heap.size b2 o2 c2 _ rfl k (D k) (HD.out k hlt).1 W (HD.out k hlt).2 (hh.cell c6) (hh.cell c3) fun j hj => ?_
          obtain ⟨b4, o4, e4, _, q⟩ := ((HU.out.kp hkp).kp hh).int hj
          injection e4 with e4
          injection e4 with e5 e6
          subst e5 e6
          exact q
      have K0 := Kp.refl (wr.alloc (.cells #[.int .i64 l[k].1, .int .i64 l[k].2] 37))
      go_wp2_with fail
      go_region_held3 (fun w' => w'.cell? ⟨wr.heap.size, 0, none⟩ = some (.int .i64 l[k].1) ∧ w'.cell? ⟨w.heap.size + 2, 0, none⟩ = some (.func (.func 37) #[] #[.pointer (some ⟨w.heap.size + 2, 0, none⟩), .pointer (some ⟨w.heap.size, 0, none⟩)]))
        (first | go_keep | fail)
        (first
          | (go_at_call 37; refine (HC.out _ ?_).mono ?_; (go_split_ands; (focus ((repeat (first | (with_reducible assumption) | (with_reducible exact Kp.refl _) | (with_reducible apply Kp.drew) | (with_reducible apply Kp.drewN) | ((with_reducible apply Kp.setR); (focus (first | (with_reducible assumption) | (simp; done) | (simp; omega)))) | (with_reducible apply Kp.alloc) | ((with_reducible apply Kp.call); (with_reducible assumption)) | ((with_reducible apply Kp.app); (with_reducible assumption)))); done))); rintro e w1 ⟨rfl, n1, rfl⟩))
      go_wp2
      go_roundw
      case rel =>
        refine ⟨k + 1, by omega, by go_num, ?_, ?_, ?_, ?_, ?_⟩
        · rw [← part_set _ _ k (by rw [dl_len]; exact hlt), dl_at l D k hlt]
          exact AR.setPair (HA.out.alloc.drewN) (l[k].1, D k)
        · exact Kp.setR (by simp) (Kp.setR (by simp) (by (focus ((repeat (first | (with_reducible assumption) | (with_reducible exact Kp.refl _) | (with_reducible apply Kp.drew) | (with_reducible apply Kp.drewN) | ((with_reducible apply Kp.setR); (focus (first | (with_reducible assumption) | (simp; done) | (simp; omega)))) | (with_reducible apply Kp.alloc) | ((with_reducible apply Kp.call); (with_reducible assumption)) | ((with_reducible apply Kp.app); (with_reducible assumption)))); done))))
        · simp [*, World.cell?_alloc_some, World.cell?_setCell_far]
        · simp [*, World.cell?_alloc_some, World.cell?_setCell_far]
        · simp; omega
      case measure => simp [intOf]; omega
    · have hkl : k = l.length := by omega
      go_wp2
      go_ret
      subst hkl
      refine ⟨w.heap.size + 1, by rw [dl_len]; rfl, by omega, ?_, hkp.bel⟩
      have h := HA.out
      rwa [show l.length = (dl l D).length from (dl_len l D).symm, part_end] at h
end Go.Proofs.Ythbapflabjogkaa
