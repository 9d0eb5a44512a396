/-
  Trees of the references that are only read (TR); hedgref.Spots: what it answers. Conditions: the tree is of fewer than 2^30 nodes with the depth.
  hedgref.HeapTree: what it answers. Conditions: the list reads as l (RD), of fewer than 2^30 pairs.
  The plain law of heap.built: who stands next above, by the stack, is who stands next above in hedgref.HeapTree. No program. Conditions: none.
-/
import Derived.Test.YtfgbbmjnjppfnaaDoorZipOneM1
import Derived.Test.YtfgbbmjnjppfnaaDoorZipOneM16
import Derived.Test.YtfgbbmjnjppfnaaDoorZipOneM3

namespace Go.Proofs.YtfgbbmjnjppfnaaDoor
open Go.ChangeShapes Go.WideShapes Go.ChangeAt Go.RowKit
set_option linter.unusedVariables false
set_option linter.unusedSimpArgs false

inductive T where
  | nil
  | node (k : Int) (l r : T)
def T.size : T → Nat
  | .nil => 0
  | .node _ l r => l.size + 1 + r.size
def T.spots : T → Int → List IP
  | .nil, _ => []
  | .node k l r, d => l.spots (d + 1) ++ [(k, d)] ++ r.spots (d + 1)
theorem T.spots_len : ∀ (t : T) (d : Int), (t.spots d).length = t.size
  | .nil, _ => rfl
  | .node k l r, d => by simp [T.spots, T.size, T.spots_len l, T.spots_len r]; omega

def TR (w : World) : T → Option Addr → Prop
  | .nil, p => p = none
  | .node k l r, p => ∃ b pl pr, p = some ⟨b, 0, none⟩ ∧ b < w.heap.size ∧ w.cell? ⟨b, 0, none⟩ = some (.int .i64 k) ∧ w.cell? ⟨b, 1, none⟩ = some (.pointer pl) ∧ w.cell? ⟨b, 2, none⟩ = some (.pointer pr) ∧ TR w l pl ∧ TR w r pr
theorem TR.keep {w w' : World} (hs : w.heap.size ≤ w'.heap.size) (hk : ∀ p : Addr, p.block < w.heap.size → w'.cell? p = w.cell? p) : ∀ {t : T} {v : Option Addr}, TR w t v → TR w' t v
  | .nil, _, h => h
  | .node _ _ _, _, ⟨b, pl, pr, h1, h2, h3, h4, h5, h6, h7⟩ => ⟨b, pl, pr, h1, by omega, (hk _ h2).trans h3, (hk _ h2).trans h4, (hk _ h2).trans h5, TR.keep hs hk h6, TR.keep hs hk h7⟩
theorem TR.kp {w w' : World} {t : T} {v : Option Addr} (h : TR w t v) (hb : Kp w w') : TR w' t v := TR.keep (Kp.size hb) (fun p hp => Below.cell (Kp.bel hb) hp) h
theorem TR.below {w w' : World} {t : T} {v : Option Addr} (h : TR w t v) (hb : Below w.heap.size w w') : TR w' t v := TR.keep hb.size (fun p hp => hb.cell hp) h

theorem TR.mk {w : World} {k : Int} {l r : T} {pl pr : Option Addr} (hl : TR w l pl) (hr : TR w r pr) (tt : TypeId) : TR (w.alloc (.cells #[.int .i64 k, .pointer pl, .pointer pr] tt)) (.node k l r) (some ⟨w.heap.size, 0, none⟩) := by
  have hk : Kp w (w.alloc (.cells #[.int .i64 k, .pointer pl, .pointer pr] tt)) := (Kp.refl w).alloc
  exact ⟨w.heap.size, pl, pr, rfl, by simp, cell_of_row _ _ 0 _ tt (0, 0) (heap_alloc_new w _), cell_of_row _ _ 1 _ tt (0, 0) (heap_alloc_new w _), cell_of_row _ _ 2 _ tt (0, 0) (heap_alloc_new w _), hl.kp hk, hr.kp hk⟩
def RetTR (t : T) (w : World) (e : Ending) (w' : World) : Prop := ∃ p, e = .returned (.pointer p) ∧ TR w' t p ∧ Below w.heap.size w w'

set_option maxRecDepth 100000 in
set_option maxHeartbeats 400000 in
theorem spots_any : ∀ (t : T) (v : Option Addr) (d : Int) (w : World), TR w t v → 0 ≤ d → d + t.size ≤ 1073741824 →
    Calls Tryd.prog 15 #[.pointer v, .int .i64 d] w (RetOW 51 ePair (t.spots d) w)
  | .nil, v, d, w, h, h0, h1 => by
    have h' : v = none := h
    subst h'
    go_enter Tryd.func15, Tryd.ntmps15
    go_wp2
    go_ret
    exact ⟨_, rfl, OW.nil, Below.refl _ _⟩
  | .node k l r, v, d, w, h, h0, h1 => by
    obtain ⟨b, pl, pr, rfl, hb, c0, c1, c2, hl, hr⟩ := h
    simp only [T.size] at h1
    have HI := hide (fun w h => spots_any l pl (d + 1) w h (by omega) (by omega))
    have HJ := hide (fun w h => spots_any r pr (d + 1) w h (by omega) (by omega))
    have HL := hide hl
    have HR := hide hr
    clear hl hr
    have HM1 : Hid (((l.spots (d + 1)).length + [(k, d)].length) * 16 ≤ 140737488355328) := hide (by rw [T.spots_len]; simp; omega)
    have HM2 : Hid ((l.spots (d + 1)).length + [(k, d)].length ≤ maxLen) := hide (by rw [T.spots_len]; simp [maxLen]; omega)
    have HM3 : Hid (((l.spots (d + 1) ++ [(k, d)]).length + (r.spots (d + 1)).length) * 16 ≤ 140737488355328) := hide (by rw [List.length_append, T.spots_len, T.spots_len]; simp; omega)
    have HM4 : Hid ((l.spots (d + 1) ++ [(k, d)]).length + (r.spots (d + 1)).length ≤ maxLen) := hide (by rw [List.length_append, T.spots_len, T.spots_len]; simp [maxLen]; omega)
    have KS : Hid (∀ W', Kp w W' → (W'.cell? ⟨b, 0, none⟩ = some (.int .i64 k) ∧ W'.cell? ⟨b, 1, none⟩ = some (.pointer pl) ∧ W'.cell? ⟨b, 2, none⟩ = some (.pointer pr) ∧ Kp w W')) :=
      hide fun W' h => ⟨h.cell c0, h.cell c1, h.cell c2, h⟩
    have K0 := Kp.refl w
    have K1 := K0.drew
    have hw : IntKind.i64.wrap (d + 1) = d + 1 := IntWalk.i64_in _ (by omega)
    clear h0 h1
    go_enter Tryd.func15, Tryd.ntmps15
    go_wp2_with fail
    go_region_held3 (fun w' => w'.cell? ⟨b, 0, none⟩ = some (.int .i64 k) ∧ w'.cell? ⟨b, 1, none⟩ = some (.pointer pl) ∧ w'.cell? ⟨b, 2, none⟩ = some (.pointer pr) ∧ Kp w w')
      ((go_split_ands
        refine KS.out _ ?_
        (focus ((repeat (first | (with_reducible assumption) | (with_reducible exact Kp.refl _) | (with_reducible apply Kp.drew) | (with_reducible apply Kp.drewN) | ((with_reducible apply Kp.setR); (focus (first | (with_reducible assumption) | (simp; done) | (simp; omega)))) | (with_reducible apply Kp.alloc) | ((with_reducible apply Kp.call); (with_reducible assumption)) | ((with_reducible apply Kp.app); (with_reducible assumption)))); done))))
      (first
        | (go_at_call_of 15 (Value.pointer pl); refine (HI.out _ (HL.out.below (Kp.bel ?_))).mono ?_; (go_split_ands; (focus ((repeat (first | (with_reducible assumption) | (with_reducible exact Kp.refl _) | (with_reducible apply Kp.drew) | (with_reducible apply Kp.drewN) | ((with_reducible apply Kp.setR); (focus (first | (with_reducible assumption) | (simp; done) | (simp; omega)))) | (with_reducible apply Kp.alloc) | ((with_reducible apply Kp.call); (with_reducible assumption)) | ((with_reducible apply Kp.app); (with_reducible assumption)))); done))); rintro e w1 ⟨v1, rfl, ho1', hb1⟩; have ho1 := OW.more ho1' (Kp.size (w := w) (by go_split_ands; (focus ((repeat (first | (with_reducible assumption) | (with_reducible exact Kp.refl _) | (with_reducible apply Kp.drew) | (with_reducible apply Kp.drewN) | ((with_reducible apply Kp.setR); (focus (first | (with_reducible assumption) | (simp; done) | (simp; omega)))) | (with_reducible apply Kp.alloc) | ((with_reducible apply Kp.call); (with_reducible assumption)) | ((with_reducible apply Kp.app); (with_reducible assumption)))); done)))); have lo1 := ho1.lo; have hi1 := ho1.hi; clear ho1')
        | (go_at_call_of 15 (Value.pointer pr); refine (HJ.out _ (HR.out.below (Kp.bel ?_))).mono ?_; (go_split_ands; (focus ((repeat (first | (with_reducible assumption) | (with_reducible exact Kp.refl _) | (with_reducible apply Kp.drew) | (with_reducible apply Kp.drewN) | ((with_reducible apply Kp.setR); (focus (first | (with_reducible assumption) | (simp; done) | (simp; omega)))) | (with_reducible apply Kp.alloc) | ((with_reducible apply Kp.call); (with_reducible assumption)) | ((with_reducible apply Kp.app); (with_reducible assumption)))); done))); rintro e w2 ⟨v2, rfl, ho2', hb2⟩; have ho2 := OW.more ho2' (Kp.size (w := w) (by go_split_ands; (focus ((repeat (first | (with_reducible assumption) | (with_reducible exact Kp.refl _) | (with_reducible apply Kp.drew) | (with_reducible apply Kp.drewN) | ((with_reducible apply Kp.setR); (focus (first | (with_reducible assumption) | (simp; done) | (simp; omega)))) | (with_reducible apply Kp.alloc) | ((with_reducible apply Kp.call); (with_reducible assumption)) | ((with_reducible apply Kp.app); (with_reducible assumption)))); done)))); try have hap := lo1.apart (Hi.mono ho2'.hi (by simp)); clear ho2')
        | ((with_reducible refine step_app (l := l.spots (d + 1)) (m := [(k, d)]) row_spot v1 ?_ (.tmp 13) (.tmp 20) ?_ ?_ ?_ ?_ HM1.out HM2.out (Kp.size (w := w) ?_) ?_); (with_reducible rfl); (with_reducible rfl); rfl; (focus ((repeat (first | (with_reducible assumption) | (with_reducible apply OW.alloc) | (with_reducible apply OW.drew) | (with_reducible apply OW.drewN) | ((with_reducible apply OW.setCellR); (with_reducible assumption)) | ((with_reducible apply OW.belowR); (with_reducible assumption)) | ((with_reducible apply OW.keptR); (with_reducible assumption); (with_reducible assumption)))); done)); (show RD _ _ (.slice (some ⟨_, 0, none⟩) 1 1) _; (focus ((repeat (first | (with_reducible assumption) | exact RD.new1 _ rfl | (refine RD.new1e _ ?_ rfl; simp; done) | (with_reducible apply RD.alloc) | (with_reducible apply RD.drew) | (with_reducible apply RD.drewN) | ((with_reducible apply RD.belowR); (with_reducible assumption)))); done))); (go_split_ands; (focus ((repeat (first | (with_reducible assumption) | (with_reducible exact Kp.refl _) | (with_reducible apply Kp.drew) | (with_reducible apply Kp.drewN) | ((with_reducible apply Kp.setR); (focus (first | (with_reducible assumption) | (simp; done) | (simp; omega)))) | (with_reducible apply Kp.alloc) | ((with_reducible apply Kp.call); (with_reducible assumption)) | ((with_reducible apply Kp.app); (with_reducible assumption)))); done))); intro v3 w3 ho3 hg3 hat3; have hi3 := ho3.hi)
        | ((with_reducible refine step_app (l := l.spots (d + 1) ++ [(k, d)]) (m := r.spots (d + 1)) row_spot v3 ?_ (.tmp 21) (.tmp 28) ?_ ?_ ?_ ?_ HM3.out HM4.out (Kp.size (w := w) ?_) ?_); (with_reducible rfl); (with_reducible rfl); rfl; (focus ((repeat (first | (with_reducible assumption) | (with_reducible apply OW.alloc) | (with_reducible apply OW.drew) | (with_reducible apply OW.drewN) | ((with_reducible apply OW.setCellR); (with_reducible assumption)) | ((with_reducible apply OW.belowR); (with_reducible assumption)) | ((with_reducible apply OW.keptR); (with_reducible assumption); (with_reducible assumption)))); done)); (show RD _ _ v2 _; refine OW.rd (B := w.heap.size) (e := 51) ?_; (focus ((repeat (first | (with_reducible assumption) | (with_reducible apply OW.alloc) | (with_reducible apply OW.drew) | (with_reducible apply OW.drewN) | ((with_reducible apply OW.setCellR); (with_reducible assumption)) | ((with_reducible apply OW.belowR); (with_reducible assumption)) | ((with_reducible apply OW.keptR); (with_reducible assumption); (with_reducible assumption)))); done))); (go_split_ands; (focus ((repeat (first | (with_reducible assumption) | (with_reducible exact Kp.refl _) | (with_reducible apply Kp.drew) | (with_reducible apply Kp.drewN) | ((with_reducible apply Kp.setR); (focus (first | (with_reducible assumption) | (simp; done) | (simp; omega)))) | (with_reducible apply Kp.alloc) | ((with_reducible apply Kp.call); (with_reducible assumption)) | ((with_reducible apply Kp.app); (with_reducible assumption)))); done))); intro v4 w4 ho4 hg4 hat4))
    all_goals
      go_wp2
      go_ret
      exact ⟨_, rfl, ho4, Kp.bel (by (focus ((repeat (first | (with_reducible assumption) | (with_reducible exact Kp.refl _) | (with_reducible apply Kp.drew) | (with_reducible apply Kp.drewN) | ((with_reducible apply Kp.setR); (focus (first | (with_reducible assumption) | (simp; done) | (simp; omega)))) | (with_reducible apply Kp.alloc) | ((with_reducible apply Kp.call); (with_reducible assumption)) | ((with_reducible apply Kp.app); (with_reducible assumption)))); done)))⟩
end Go.Proofs.YtfgbbmjnjppfnaaDoor
namespace Go.Proofs.YtfgbbmjnjppfnaaDoor
open Go.ChangeShapes Go.WideShapes Go.ChangeAt Go.RowKit
set_option linter.unusedVariables false
set_option linter.unusedSimpArgs false

/-- The place of the first pair with the greatest value, from a place and a best one on. -/
def amax (l : List IP) : Nat → Nat → Nat → Nat
  | 0, _, at_ => at_
  | n + 1, k, at_ => amax l n (k + 1) (if (l.getD at_ (0, 0)).2 < (l.getD k (0, 0)).2 then k else at_)
def top (l : List IP) : Nat := amax l l.length 0 0
theorem amax_lt (l : List IP) : ∀ n k a, a < l.length → k + n ≤ l.length → amax l n k a < l.length
  | 0, _, a, h, _ => h
  | n + 1, k, a, h, hk => by
    unfold amax
    split
    · exact amax_lt l n (k + 1) k (by omega) (by omega)
    · exact amax_lt l n (k + 1) a h (by omega)
theorem top_lt (l : List IP) (h : l ≠ []) : top l < l.length := amax_lt l l.length 0 0 (List.length_pos_iff.2 h) (by omega)
theorem amax_step (l : List IP) (k a : Nat) (h : k < l.length) (ha : a < l.length) : amax l (l.length - k) k a = amax l (l.length - (k + 1)) (k + 1) (if l[a].2 < l[k].2 then k else a) := by
  rw [show l.length - k = (l.length - (k + 1)) + 1 from by omega, amax]
  simp [List.getD_eq_getElem?_getD, List.getElem?_eq_getElem h, List.getElem?_eq_getElem ha]

def heapTree (l : List IP) : T :=
  if h : l = [] then .nil
  else
    have := top_lt l h
    .node (l[top l]'(top_lt l h)).1 (heapTree (l.take (top l))) (heapTree (l.drop (top l + 1)))
termination_by l.length
decreasing_by
  · simp; omega
  · simp; omega
theorem heapTree_nil : heapTree [] = .nil := by rw [heapTree]; simp
theorem heapTree_cons (l : List IP) (h : l ≠ []) : heapTree l = .node (l[top l]'(top_lt l h)).1 (heapTree (l.take (top l))) (heapTree (l.drop (top l + 1))) := by
  rw [heapTree, dif_neg h]
theorem heapTree_size (l : List IP) : (heapTree l).size = l.length := by
  by_cases h : l = []
  · subst h; rw [heapTree_nil]; rfl
  · have hl := top_lt l h
    rw [heapTree_cons l h, T.size, heapTree_size (l.take (top l)), heapTree_size (l.drop (top l + 1))]
    simp; omega
termination_by l.length
decreasing_by
  · simp; omega
  · simp; omega

def HRel (l : List IP) (w : World) (a i : Value) (wr : World) : Prop :=
  ∃ (k m : Nat), k ≤ l.length ∧ m < l.length ∧ i = .int .i64 k ∧ a = .int .i64 m ∧ amax l (l.length - k) k m = top l ∧ Kp w wr

set_option maxRecDepth 100000 in
set_option maxHeartbeats 1000000 in
theorem heapTree_any (n : Nat) : ∀ (l : List IP) (v : Value) (w : World), l.length ≤ n → n ≤ 1073741824 → RD w ePair v l → Calls Tryd.prog 41 #[v] w (RetTR (heapTree l) w) := by
  induction n with
  | zero =>
    intro l v w h0 hn hr
    have hl : l = [] := List.eq_nil_of_length_eq_zero (by omega)
    subst hl
    obtain ⟨A, c, rfl, hc, hm⟩ := hr.shape
    go_enter Tryd.func41, Tryd.ntmps41
    go_wp2
    go_ret
    exact ⟨_, rfl, by rw [heapTree_nil]; rfl, Below.refl _ _⟩
  | succ n ih =>
    intro l v w h0 hn hr
    have IH := hide ih
    clear ih
    obtain ⟨A, c, rfl, hc, hm⟩ := hr.shape
    by_cases hl : l.length = 0
    · have hl' : l = [] := List.eq_nil_of_length_eq_zero hl
      subst hl'
      go_enter Tryd.func41, Tryd.ntmps41
      go_wp2
      go_ret
      exact ⟨_, rfl, by rw [heapTree_nil]; rfl, Below.refl _ _⟩
    · have hne : l ≠ [] := by rintro rfl; exact hl rfl
      have hlb : ((l.length : Int) == 0) = false := by simp; omega
      have HR := hide hr
      clear hr
      have hpos : 0 < l.length := by omega
      have hl' := hide hl
      have hne' := hide hne
      clear hl hne
      go_enter Tryd.func41, Tryd.ntmps41
      go_wp2
      go_loopw [3, 11] (HRel l w) (fun a i wr => l.length - (intOf i).toNat)
      case atStart => exact ⟨0, 0, by omega, hpos, rfl, rfl, rfl, Kp.refl _⟩
      case round =>
        obtain ⟨k, m, hk, hml, rfl, rfl, htop, hkp⟩ := hrel
        have htop' := hide htop
        clear htop
        by_cases hlt : k < l.length
        · obtain ⟨b, o, rfl, hb, c0, c1⟩ := (HR.out.kp hkp).pair hlt
          obtain ⟨b2, o2, e2, hb2, d0, d1⟩ := (HR.out.kp hkp).pair hml
          injection e2 with e2
          injection e2 with e3 e4
          subst e3 e4
          have hst := amax_step l k m hlt hml
          by_cases hgt : l[m].2 < l[k].2
          · rw [if_pos hgt] at hst
            have hst' := hide hst
            clear hst
            go_wp2_with fail
            go_quiet (fail)
            go_wp2
            go_roundw
            case rel => exact ⟨k + 1, k, by omega, by omega, by go_num, rfl, by rw [← hst'.out, htop'.out], (by (focus ((repeat (first | (with_reducible assumption) | (with_reducible exact Kp.refl _) | (with_reducible apply Kp.drew) | (with_reducible apply Kp.drewN) | ((with_reducible apply Kp.setR); (focus (first | (with_reducible assumption) | (simp; done) | (simp; omega)))) | (with_reducible apply Kp.alloc) | ((with_reducible apply Kp.call); (with_reducible assumption)) | ((with_reducible apply Kp.app); (with_reducible assumption)))); done)))⟩
            case measure => simp [intOf]; omega
          · rw [if_neg hgt] at hst
            have hst' := hide hst
            clear hst
            go_wp2_with fail
            go_quiet (fail)
            go_wp2
            go_roundw
            case rel => exact ⟨k + 1, m, by omega, by omega, by go_num, rfl, by rw [← hst'.out, htop'.out], (by (focus ((repeat (first | (with_reducible assumption) | (with_reducible exact Kp.refl _) | (with_reducible apply Kp.drew) | (with_reducible apply Kp.drewN) | ((with_reducible apply Kp.setR); (focus (first | (with_reducible assumption) | (simp; done) | (simp; omega)))) | (with_reducible apply Kp.alloc) | ((with_reducible apply Kp.call); (with_reducible assumption)) | ((with_reducible apply Kp.app); (with_reducible assumption)))); done)))⟩
            case measure => simp [intOf]; omega
        · have hm' : m = top l := by
            have := htop'.out
            rwa [show l.length - k = 0 from by omega] at this
          have hm'' := hide hm'
          clear hm'
          obtain ⟨b, o, rfl, hb, c0, c1⟩ := (HR.out.kp hkp).pair hml
          have b1 : (m : Int) < (l.length : Int) := by omega
          have b2 : (m : Int) ≤ (c : Int) := by omega
          have b3 : (0 : Int) ≤ (m : Int) := by omega
          have b4 : (m : Int) + 1 ≤ (l.length : Int) := by omega
          have b5 : (0 : Int) ≤ (m : Int) + 1 := by omega
          have KS : Hid (∀ W', Kp wr W' → (W'.cell? ⟨b, o + m * 2, none⟩ = some (.int .i64 l[m].1) ∧ Kp wr W')) := hide fun W' h => ⟨h.cell c0, h⟩
          obtain ⟨A2, hif⟩ : ∃ A2, (if c = m + 1 then some (⟨b, o, none⟩ : Addr) else some ⟨b, o + (m + 1) * 2, none⟩) = A2 := ⟨_, rfl⟩
          have HC1 := hide (fun W (h : Kp wr W) => IH.out (l.take m) (.slice (some ⟨b, o, none⟩) m c) W (by simp; omega) (by omega) (((HR.out.kp hkp).kp h).takeS (by omega)))
          have HC2 := hide (fun W (h : Kp wr W) => IH.out (l.drop (m + 1)) (.slice A2 (l.length - (m + 1)) (c - (m + 1))) W (by simp; omega) (by omega) (((HR.out.kp hkp).kp h).dropS (by omega) rfl hif))
          have tn : ((m : Int) + 1).toNat = m + 1 := by omega
          have hw : IntKind.i64.wrap ((m : Int) + 1) = (m : Int) + 1 := IntWalk.i64_in _ (by omega)
          have K0 := Kp.refl wr
          go_wp2_with fail
          go_region_held3 (fun w' => w'.cell? ⟨b, o + m * 2, none⟩ = some (.int .i64 l[m].1) ∧ Kp wr w')
            ((go_split_ands; refine KS.out _ ?_; (focus ((repeat (first | (with_reducible assumption) | (with_reducible exact Kp.refl _) | (with_reducible apply Kp.drew) | (with_reducible apply Kp.drewN) | ((with_reducible apply Kp.setR); (focus (first | (with_reducible assumption) | (simp; done) | (simp; omega)))) | (with_reducible apply Kp.alloc) | ((with_reducible apply Kp.call); (with_reducible assumption)) | ((with_reducible apply Kp.app); (with_reducible assumption)))); done))))
            (first
              | (go_at_call 41; (with_reducible refine (HC1.out _ ?_).mono ?_); (go_split_ands; (focus ((repeat (first | (with_reducible assumption) | (with_reducible exact Kp.refl _) | (with_reducible apply Kp.drew) | (with_reducible apply Kp.drewN) | ((with_reducible apply Kp.setR); (focus (first | (with_reducible assumption) | (simp; done) | (simp; omega)))) | (with_reducible apply Kp.alloc) | ((with_reducible apply Kp.call); (with_reducible assumption)) | ((with_reducible apply Kp.app); (with_reducible assumption)))); done))); rintro e w1 ⟨v1, rfl, ht1, hb1⟩)
              | (go_at_call 41; (with_reducible refine (HC2.out _ ?_).mono ?_); (go_split_ands; (focus ((repeat (first | (with_reducible assumption) | (with_reducible exact Kp.refl _) | (with_reducible apply Kp.drew) | (with_reducible apply Kp.drewN) | ((with_reducible apply Kp.setR); (focus (first | (with_reducible assumption) | (simp; done) | (simp; omega)))) | (with_reducible apply Kp.alloc) | ((with_reducible apply Kp.call); (with_reducible assumption)) | ((with_reducible apply Kp.app); (with_reducible assumption)))); done))); rintro e w2 ⟨v2, rfl, ht2, hb2⟩))
          all_goals
            go_wp2
            go_ret
            refine ⟨some ⟨w2.heap.size, 0, none⟩, rfl, ?_, (hkp.trans (by go_split_ands; (focus ((repeat (first | (with_reducible assumption) | (with_reducible exact Kp.refl _) | (with_reducible apply Kp.drew) | (with_reducible apply Kp.drewN) | ((with_reducible apply Kp.setR); (focus (first | (with_reducible assumption) | (simp; done) | (simp; omega)))) | (with_reducible apply Kp.alloc) | ((with_reducible apply Kp.call); (with_reducible assumption)) | ((with_reducible apply Kp.app); (with_reducible assumption)))); done)))).bel⟩
            rw [heapTree_cons l hne'.out]
            have e := hm''.out
            subst e
            exact TR.mk (ht1.below hb2) ht2 _
end Go.Proofs.YtfgbbmjnjppfnaaDoor
namespace Go.Proofs.YtfgbbmjnjppfnaaDoor
open Go.ChangeShapes Go.WideShapes Go.ChangeAt Go.RowKit
set_option linter.unusedVariables false
set_option linter.unusedSimpArgs false

def PT.spine : PT → List Nat
  | .nil => []
  | .node p l r => r.spine ++ [p]
/-- No one below ranks higher. -/
def PT.ord (v : Nat → Int) : PT → Prop
  | .nil => True
  | .node p l r => l.ord v ∧ r.ord v ∧ (∀ q ∈ r.spine, v q ≤ v p)
def PT.ins (v : Nat → Int) (n : Nat) : PT → PT
  | .nil => .node n .nil .nil
  | .node p l r => if v p < v n then .node n (.node p l r) .nil else .node p l (r.ins v n)
theorem PT.ins_size (v : Nat → Int) (n : Nat) : ∀ t : PT, (t.ins v n).size = t.size + 1
  | .nil => rfl
  | .node p l r => by
    unfold ins
    split
    · simp [size]
    · simp [size, ins_size v n r]; omega

/-- popL by a value function. -/
def popV (v : Nat → Int) (x : Int) : List Nat → Int → List Nat × Int
  | [], last => ([], last)
  | t :: es, last => if v t < x then popV v x es t else (t :: es, last)
theorem popL_popV (l : List IP) (x : Int) : ∀ (st : List Nat) (last : Int), popL l x st last = popV (gv l) x st last
  | [], _ => rfl
  | t :: es, last => by unfold popL popV; split <;> simp [popL_popV l x es]
theorem popV_all (v : Nat → Int) (x : Int) : ∀ (s rest : List Nat) (last : Int), (∀ q ∈ s, v q < x) → popV v x (s ++ rest) last = popV v x rest (match s.getLast? with | some t => (t : Int) | none => last)
  | [], rest, last, _ => by simp
  | a :: s, rest, last, h => by
    rw [List.cons_append, popV, if_pos (h a (by simp)), popV_all v x s rest a (fun q hq => h q (by simp [hq]))]
    congr 1
    cases s with
    | nil => simp
    | cons b s =>
      rw [List.getLast?_cons_cons]
      cases h : (b :: s).getLast? with
      | none => simp at h
      | some t => rfl
theorem popV_stop (v : Nat → Int) (x : Int) (rest : List Nat) (last : Int) (h : ∀ t es, rest = t :: es → ¬ v t < x) : popV v x rest last = (rest, last) := by
  cases rest with
  | nil => rfl
  | cons t es => rw [popV, if_neg (h t es rfl)]

/-- What the step does to the list of those above: at the new place hd of what is left; of the last one popped: the new place. -/
def fix (L : List Int) (off n : Nat) (up last : Int) : List Int := if 0 ≤ last then (L ++ [up]).set (last.toNat - off) n else L ++ [up]

theorem ins_step (v : Nat → Int) (n : Nat) : ∀ (t : PT) (off : Nat) (rest : List Nat), t.ord v → t.At off → n = off + t.size → (∀ q es, rest = q :: es → ¬ v q < v n) →
    ∃ st last, popV v (v n) (t.spine ++ rest) (-1) = (st, last) ∧ (t.ins v n).spine ++ rest = n :: st ∧ (t.ins v n).At off ∧ (t.ins v n).pars (hd rest) = fix (t.pars (hd rest)) off n (hd st) last ∧ (0 ≤ last → off ≤ last.toNat ∧ last.toNat < n)
  | .nil, off, rest, ho, ha, hn, hr => by
    refine ⟨rest, -1, ?_, by simp [PT.ins, PT.spine], ?_, ?_, by omega⟩
    · simp only [PT.spine, List.nil_append]; exact popV_stop v _ rest _ hr
    · simp [PT.ins, PT.At, PT.size] at *; omega
    · simp [PT.ins, PT.pars, fix]
  | .node p l r, off, rest, ⟨hl, hr', hs⟩, ⟨hp, hal, har⟩, hn, hr => by
    by_cases hlt : v p < v n
    · have hall : ∀ q ∈ (PT.node p l r).spine, v q < v n := by
        intro q hq
        simp only [PT.spine, List.mem_append, List.mem_singleton] at hq
        rcases hq with hq | rfl
        · have := hs q hq; omega
        · exact hlt
      have hpop := popV_all v (v n) (PT.node p l r).spine rest (-1) hall
      have hlast : (match (PT.node p l r).spine.getLast? with | some t => (t : Int) | none => -1) = (p : Int) := by simp [PT.spine]
      rw [hlast, popV_stop v _ rest _ hr] at hpop
      refine ⟨rest, p, hpop, by simp [PT.ins, hlt, PT.spine], ?_, ?_, ?_⟩
      · simp only [PT.ins, if_pos hlt, PT.At, PT.size] at *
        exact ⟨hn, ⟨hp, hal, har⟩, trivial⟩
      · simp only [PT.ins, if_pos hlt, PT.pars, fix, if_pos (Int.natCast_nonneg p), Int.toNat_natCast, List.append_nil]
        have hpl : (l.pars (p : Int)).length = p - off := by rw [PT.pars_len]; omega
        have e : l.pars (p : Int) ++ [hd rest] ++ r.pars (p : Int) ++ [hd rest] = l.pars (p : Int) ++ (hd rest :: (r.pars (p : Int) ++ [hd rest])) := by simp
        rw [e, List.set_append_right _ _ (by omega), hpl, Nat.sub_self, List.set_cons_zero]
        simp
      · intro _
        simp only [Int.toNat_natCast, PT.size] at *
        omega
    · have hn' : n = p + 1 + r.size := by simp only [PT.size] at hn; omega
      obtain ⟨st, last, h1, h2, h3, h4, h5⟩ := ins_step v n r (p + 1) (p :: rest) hr' har hn' (fun q es e => by injection e with e1 _; subst e1; exact hlt)
      refine ⟨st, last, ?_, ?_, ?_, ?_, fun h => ⟨by have := h5 h; omega, (h5 h).2⟩⟩
      · simpa [PT.spine] using h1
      · simpa [PT.ins, hlt, PT.spine] using h2
      · simp only [PT.ins, if_neg hlt, PT.At]
        exact ⟨hp, hal, h3⟩
      · simp only [PT.ins, if_neg hlt, PT.pars]
        have h4' : (r.ins v n).pars (p : Int) = fix (r.pars (p : Int)) (p + 1) n (hd st) last := h4
        rw [h4']
        unfold fix
        split
        · rename_i h0
          obtain ⟨h6, h7⟩ := h5 h0
          have hpl : (l.pars (p : Int) ++ [hd rest]).length = p + 1 - off := by rw [List.length_append, PT.pars_len]; simp; omega
          have e : l.pars (p : Int) ++ [hd rest] ++ r.pars (p : Int) ++ [hd st] = (l.pars (p : Int) ++ [hd rest]) ++ (r.pars (p : Int) ++ [hd st]) := by simp
          have e3 : ((l.pars (p : Int) ++ [hd rest]) ++ (r.pars (p : Int) ++ [hd st])).set (last.toNat - off) (n : Int) = (l.pars (p : Int) ++ [hd rest]) ++ (r.pars (p : Int) ++ [hd st]).set (last.toNat - (p + 1)) (n : Int) := by
            rw [List.set_append_right _ _ (by omega), hpl]
            congr 2
            omega
          rw [e, e3]
        · simp

/-! The tree of places of a list. -/
theorem amax_last (l : List IP) : ∀ m k a, amax l (m + 1) k a = (if (l.getD (amax l m k a) (0, 0)).2 < (l.getD (k + m) (0, 0)).2 then k + m else amax l m k a)
  | 0, k, a => by simp [amax]
  | m + 1, k, a => by
    rw [amax, amax_last l m (k + 1), show k + 1 + m = k + (m + 1) from by omega]
    rfl
theorem amax_append (l : List IP) (x : IP) : ∀ m k a, k + m ≤ l.length → a < l.length → amax (l ++ [x]) m k a = amax l m k a
  | 0, _, _, _, _ => rfl
  | m + 1, k, a, h, ha => by
    have e1 : (l ++ [x]).getD a (0, 0) = l.getD a (0, 0) := by simp [List.getD_eq_getElem?_getD, List.getElem?_append_left ha]
    have e2 : (l ++ [x]).getD k (0, 0) = l.getD k (0, 0) := by simp [List.getD_eq_getElem?_getD, List.getElem?_append_left (show k < l.length by omega)]
    rw [amax, amax, e1, e2]
    split
    · exact amax_append l x m (k + 1) k (by omega) (by omega)
    · exact amax_append l x m (k + 1) a (by omega) ha
theorem top_snoc (l : List IP) (x : IP) (h : l ≠ []) : top (l ++ [x]) = if (l[top l]'(top_lt l h)).2 < x.2 then l.length else top l := by
  have h0 := List.length_pos_iff.2 h
  have ht := top_lt l h
  unfold top at ht ⊢
  rw [List.length_append, List.length_singleton, amax_last, amax_append l x _ _ _ (by omega) h0]
  have e1 : (l ++ [x]).getD (amax l l.length 0 0) (0, 0) = l[amax l l.length 0 0] := by simp [List.getD_eq_getElem?_getD, List.getElem?_append_left ht, List.getElem?_eq_getElem ht]
  have e2 : (l ++ [x]).getD (0 + l.length) (0, 0) = x := by simp [List.getD_eq_getElem?_getD]
  rw [e1, e2, Nat.zero_add]
  rfl
theorem amax_ge (l : List IP) : ∀ m k a, k + m ≤ l.length → a < l.length → (∀ j, j < k → (l.getD j (0, 0)).2 ≤ (l.getD a (0, 0)).2) → ∀ j, j < k + m → (l.getD j (0, 0)).2 ≤ (l.getD (amax l m k a) (0, 0)).2
  | 0, k, a, _, _, h, j, hj => h j hj
  | m + 1, k, a, hk, ha, h, j, hj => by
    rw [amax]
    split
    · rename_i hlt
      exact amax_ge l m (k + 1) k (by omega) (by omega) (fun i hi => by
        rcases Nat.lt_or_ge i k with h1 | h1
        · have := h i h1; omega
        · obtain rfl : i = k := by omega
          omega) j (by omega)
    · rename_i hlt
      exact amax_ge l m (k + 1) a (by omega) ha (fun i hi => by
        rcases Nat.lt_or_ge i k with h1 | h1
        · exact h i h1
        · obtain rfl : i = k := by omega
          omega) j (by omega)
theorem top_ge (l : List IP) (h : l ≠ []) (j : Nat) (hj : j < l.length) : l[j].2 ≤ (l[top l]'(top_lt l h)).2 := by
  have := amax_ge l l.length 0 0 (by omega) (List.length_pos_iff.2 h) (fun j hj => by omega) j (by omega)
  have ht := top_lt l h
  unfold top at ht ⊢
  simp only [List.getD_eq_getElem?_getD, List.getElem?_eq_getElem hj, List.getElem?_eq_getElem ht, Option.getD_some] at this
  exact this

def ptree (l : List IP) (off : Nat) : PT :=
  if h : l = [] then .nil
  else
    have := top_lt l h
    .node (off + top l) (ptree (l.take (top l)) off) (ptree (l.drop (top l + 1)) (off + top l + 1))
termination_by l.length
decreasing_by
  · simp; omega
  · simp; omega
theorem ptree_nil (off : Nat) : ptree [] off = .nil := by rw [ptree]; simp
theorem ptree_cons (l : List IP) (off : Nat) (h : l ≠ []) : ptree l off = .node (off + top l) (ptree (l.take (top l)) off) (ptree (l.drop (top l + 1)) (off + top l + 1)) := by
  rw [ptree, dif_neg h]
theorem ptree_size (l : List IP) (off : Nat) : (ptree l off).size = l.length := by
  by_cases h : l = []
  · subst h; rw [ptree_nil]; rfl
  · have hl := top_lt l h
    rw [ptree_cons l off h, PT.size, ptree_size (l.take (top l)), ptree_size (l.drop (top l + 1))]
    simp; omega
termination_by l.length
decreasing_by
  · simp; omega
  · simp; omega
theorem ptree_at (l : List IP) (off : Nat) : (ptree l off).At off := by
  by_cases h : l = []
  · subst h; rw [ptree_nil]; trivial
  · have hl := top_lt l h
    rw [ptree_cons l off h]
    refine ⟨?_, ptree_at _ _, ptree_at _ _⟩
    rw [ptree_size]; simp; omega
termination_by l.length
decreasing_by
  · simp; omega
  · simp; omega
theorem PT.spine_in : ∀ (t : PT) (off : Nat), t.At off → ∀ q ∈ t.spine, off ≤ q ∧ q < off + t.size
  | .nil, _, _, q, hq => by simp [spine] at hq
  | .node p l r, off, ⟨h1, h2, h3⟩, q, hq => by
    simp only [spine, List.mem_append, List.mem_singleton] at hq
    simp only [size]
    rcases hq with hq | rfl
    · have := spine_in r (p + 1) h3 q hq; omega
    · omega
theorem ptree_ord (v : Nat → Int) (l : List IP) (off : Nat) (hv : ∀ i (h : i < l.length), v (off + i) = l[i].2) : (ptree l off).ord v := by
  by_cases h : l = []
  · subst h; rw [ptree_nil]; trivial
  · have hl := top_lt l h
    rw [ptree_cons l off h]
    refine ⟨ptree_ord v _ _ fun i hi => ?_, ptree_ord v _ _ fun i hi => ?_, fun q hq => ?_⟩
    · simp at hi
      rw [hv i (by omega)]; simp
    · simp at hi
      rw [show off + top l + 1 + i = off + (top l + 1 + i) from by omega, hv _ (by omega)]; simp
    · obtain ⟨h1, h2⟩ := PT.spine_in _ _ (ptree_at _ _) q hq
      rw [ptree_size] at h2
      simp at h2
      obtain ⟨i, rfl⟩ : ∃ i, q = off + i := ⟨q - off, by omega⟩
      rw [hv i (by omega), hv _ hl]
      exact top_ge l h i (by omega)
termination_by l.length
decreasing_by
  · simp; omega
  · simp; omega
theorem ptree_snoc (v : Nat → Int) (n : Nat) (x : IP) (hx : v n = x.2) (l : List IP) (off : Nat) (hn : n = off + l.length) (hv : ∀ i (h : i < l.length), v (off + i) = l[i].2) : ptree (l ++ [x]) off = (ptree l off).ins v n := by
  by_cases h : l = []
  · subst h
    rw [ptree_nil, List.nil_append, ptree_cons _ _ (by simp)]
    have ht : top [x] = 0 := by simp [top, amax]
    rw [ht]
    simp [ptree_nil, PT.ins, hn]
  · have hl := top_lt l h
    have hts := top_snoc l x h
    rw [ptree_cons l off h, ptree_cons (l ++ [x]) off (by simp), PT.ins, hv _ hl, hx]
    by_cases hlt : (l[top l]'hl).2 < x.2
    · rw [if_pos hlt] at hts
      rw [if_pos hlt, hts, ← hn]
      have e1 : (l ++ [x]).take l.length = l := by simp
      have e2 : (l ++ [x]).drop (l.length + 1) = [] := by simp
      rw [e1, e2, ptree_nil, ← ptree_cons l off h]
    · rw [if_neg hlt] at hts
      rw [if_neg hlt, hts]
      have e1 : (l ++ [x]).take (top l) = l.take (top l) := by rw [List.take_append_of_le_length (by omega)]
      have e2 : (l ++ [x]).drop (top l + 1) = l.drop (top l + 1) ++ [x] := by rw [List.drop_append_of_le_length (by omega)]
      rw [e1, e2]
      congr 1
      refine ptree_snoc v n x hx _ _ (by simp; omega) fun i hi => ?_
      simp at hi
      rw [show off + top l + 1 + i = off + (top l + 1 + i) from by omega, hv _ (by omega)]; simp
termination_by l.length
decreasing_by
  simp; omega

/-- The run of heap.built, in words of the tree of places. -/
theorem bRun_tree (l : List IP) : ∀ k, k ≤ l.length → (bRun l k).1 = (ptree (l.take k) 0).spine ∧ (bRun l k).2 = (ptree (l.take k) 0).pars (-1) ++ List.replicate (l.length - k) 0
  | 0, _ => by simp [bRun, ptree_nil, PT.spine, PT.pars]
  | k + 1, hk => by
    obtain ⟨h1, h2⟩ := bRun_tree l k (by omega)
    have hlk : (l.take k).length = k := by simp; omega
    have hv : ∀ i (h : i < (l.take k).length), gv l (0 + i) = (l.take k)[i].2 := fun i h => by
      rw [Nat.zero_add, gv_eq l i (by omega)]; simp
    have hsn := ptree_snoc (gv l) k (l[k]'(by omega)) (gv_eq l k (by omega)) (l.take k) 0 (by omega) hv
    rw [← List.take_succ_eq_append_getElem (by omega)] at hsn
    obtain ⟨st, last, h3, h4, h5, h6, h7⟩ := ins_step (gv l) k (ptree (l.take k) 0) 0 [] (ptree_ord _ _ _ hv) (ptree_at _ _) (by rw [ptree_size]; omega) (fun q es e => by cases e)
    rw [List.append_nil] at h3 h4
    have hpop : popL l (gv l k) (bRun l k).1 (-1) = (st, last) := by rw [popL_popV, h1]; exact h3
    have hst : bRun l (k + 1) = (k :: st, upTo (bRun l k).2 k (st, last)) := by
      show bStep l (bRun l k) k = _
      simp only [bStep, hpop]
    rw [hst, hsn]
    refine ⟨h4.symm, ?_⟩
    have h6' : ((ptree (l.take k) 0).ins (gv l) k).pars (-1) = fix ((ptree (l.take k) 0).pars (-1)) 0 k (hd st) last := h6
    rw [h6', h2]
    have hpl : ((ptree (l.take k) 0).pars (-1)).length = k := by rw [PT.pars_len, ptree_size, hlk]
    have e1 : ((ptree (l.take k) 0).pars (-1) ++ List.replicate (l.length - k) 0).set k (hd st) = ((ptree (l.take k) 0).pars (-1) ++ [hd st]) ++ List.replicate (l.length - (k + 1)) 0 := by
      rw [List.set_append_right _ _ (by omega), hpl, Nat.sub_self, show l.length - k = (l.length - (k + 1)) + 1 from by omega, List.replicate_succ]
      simp
    unfold upTo fix
    simp only
    split
    · rename_i h0
      rw [e1, List.set_append_left _ _ (by rw [List.length_append, hpl]; have := (h7 h0).2; simp; omega), Nat.sub_zero]
    · exact e1
theorem builtL_eq (l : List IP) : builtL l = (ptree l 0).pars (-1) := by
  have := (bRun_tree l l.length (Nat.le_refl _)).2
  simpa [builtL] using this

theorem dp_of (up : List Int) : ∀ (t : PT) (off : Nat) (p d : Int), t.At off → Dp up p (d - 1) → off + t.size ≤ up.length → (∀ i, i < t.size → up[off + i]? = (t.pars p)[i]?) →
    ∀ i (h : i < t.size), Dp up ((off + i : Nat) : Int) ((t.deps d)[i]'(by rw [PT.deps_len]; exact h))
  | .nil, _, _, _, _, _, _, _, i, h => by simp [PT.size] at h
  | .node q l r, off, p, d, ⟨hq, hl, hr⟩, hp, hsz, hup, i, h => by
    simp only [PT.size] at hsz h hup
    have hll := PT.pars_len l (q : Int)
    have hdl := PT.deps_len l (d + 1)
    have hroot : Dp up (q : Int) d := by
      have h1 := hup l.size (by omega)
      simp only [PT.pars, List.append_assoc] at h1
      rw [List.getElem?_append_right (by omega), hll, Nat.sub_self] at h1
      simp only [List.singleton_append, List.getElem?_cons_zero] at h1
      rw [← hq] at h1
      have hlt : q < up.length := by omega
      have h2 : up[q] = p := by rw [List.getElem?_eq_getElem hlt] at h1; exact Option.some.inj h1
      have := Dp.step (up := up) q (d - 1) hlt (by rw [h2]; exact hp)
      rwa [Int.sub_add_cancel] at this
    have hroot' : Dp up (q : Int) (d + 1 - 1) := by rwa [Int.add_sub_cancel]
    rcases Nat.lt_trichotomy i l.size with hi | hi | hi
    · have h1 := dp_of up l off q (d + 1) hl hroot' (by omega) (fun j hj => by
        rw [hup j (by omega)]
        simp only [PT.pars, List.append_assoc]
        rw [List.getElem?_append_left (by omega)]) i hi
      have e : ((PT.node q l r).deps d)[i]'(by rw [PT.deps_len]; simpa [PT.size] using h) = (l.deps (d + 1))[i]'(by omega) := by
        simp only [PT.deps, List.append_assoc]
        rw [List.getElem_append_left (by omega)]
      rw [e]; exact h1
    · subst hi
      have e : ((PT.node q l r).deps d)[l.size]'(by rw [PT.deps_len]; simpa [PT.size] using h) = d := by
        simp only [PT.deps, List.append_assoc]
        rw [List.getElem_append_right (by omega)]
        simp [hdl]
      rw [e, ← hq]; exact hroot
    · have h1 := dp_of up r (q + 1) q (d + 1) hr hroot' (by omega) (fun j hj => by
        have h2 := hup (l.size + 1 + j) (by omega)
        simp only [PT.pars] at h2
        rw [List.getElem?_append_right (by simp; omega)] at h2
        rw [show off + (l.size + 1 + j) = q + 1 + j from by omega] at h2
        rw [h2]
        congr 1
        simp [hll]) (i - (l.size + 1)) (by omega)
      have e : ((PT.node q l r).deps d)[i]'(by rw [PT.deps_len]; simpa [PT.size] using h) = (r.deps (d + 1))[i - (l.size + 1)]'(by rw [PT.deps_len]; omega) := by
        simp only [PT.deps]
        rw [List.getElem_append_right (by simp [hdl]; omega)]
        congr 1
        simp [hdl]
      rw [e]
      have e2 : ((q + 1 + (i - (l.size + 1)) : Nat) : Int) = ((off + i : Nat) : Int) := by omega
      rwa [e2] at h1
end Go.Proofs.YtfgbbmjnjppfnaaDoor
