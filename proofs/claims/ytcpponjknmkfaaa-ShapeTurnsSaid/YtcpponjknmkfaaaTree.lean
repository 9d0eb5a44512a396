/-
  Trees of the references that are only read (TR); hedgref.Spots: what it answers. Conditions: the tree is of fewer than 2^30 nodes with the depth.
-/
import Derived.Test.YtcpponjknmkfaaaOwn
namespace Go.Proofs.Ytcpponjknmkfaaa
open Go.ChangeShapes Go.WideShapes Go.ChangeAt Go.RowKit
set_option linter.unusedVariables false
set_option linter.unusedSimpArgs false

inductive T where
  | nil
  | node (k : Int) (l r : T)
def T.size : T → Nat
  | .nil => 0
  | .node _ l r => l.size + 1 + r.size
def T.spots : T → Int → List IP
  | .nil, _ => []
  | .node k l r, d => l.spots (d + 1) ++ [(k, d)] ++ r.spots (d + 1)
theorem T.spots_len : ∀ (t : T) (d : Int), (t.spots d).length = t.size
  | .nil, _ => rfl
  | .node k l r, d => by simp [T.spots, T.size, T.spots_len l, T.spots_len r]; omega

def TR (w : World) : T → Option Addr → Prop
  | .nil, p => p = none
  | .node k l r, p => ∃ b pl pr, p = some ⟨b, 0, none⟩ ∧ b < w.heap.size ∧ w.cell? ⟨b, 0, none⟩ = some (.int .i64 k) ∧ w.cell? ⟨b, 1, none⟩ = some (.pointer pl) ∧ w.cell? ⟨b, 2, none⟩ = some (.pointer pr) ∧ TR w l pl ∧ TR w r pr
theorem TR.keep {w w' : World} (hs : w.heap.size ≤ w'.heap.size) (hk : ∀ p : Addr, p.block < w.heap.size → w'.cell? p = w.cell? p) : ∀ {t : T} {v : Option Addr}, TR w t v → TR w' t v
  | .nil, _, h => h
  | .node _ _ _, _, ⟨b, pl, pr, h1, h2, h3, h4, h5, h6, h7⟩ => ⟨b, pl, pr, h1, by omega, (hk _ h2).trans h3, (hk _ h2).trans h4, (hk _ h2).trans h5, TR.keep hs hk h6, TR.keep hs hk h7⟩
theorem TR.kp {w w' : World} {t : T} {v : Option Addr} (h : TR w t v) (hb : Kp w w') : TR w' t v := TR.keep (Kp.size hb) (fun p hp => Below.cell (Kp.bel hb) hp) h
theorem TR.below {w w' : World} {t : T} {v : Option Addr} (h : TR w t v) (hb : Below w.heap.size w w') : TR w' t v := TR.keep hb.size (fun p hp => hb.cell hp) h

theorem TR.mk {w : World} {k : Int} {l r : T} {pl pr : Option Addr} (hl : TR w l pl) (hr : TR w r pr) (tt : TypeId) : TR (w.alloc (.cells #[.int .i64 k, .pointer pl, .pointer pr] tt)) (.node k l r) (some ⟨w.heap.size, 0, none⟩) := by
  have hk : Kp w (w.alloc (.cells #[.int .i64 k, .pointer pl, .pointer pr] tt)) := (Kp.refl w).alloc
  exact ⟨w.heap.size, pl, pr, rfl, by simp, cell_of_row _ _ 0 _ tt (0, 0) (heap_alloc_new w _), cell_of_row _ _ 1 _ tt (0, 0) (heap_alloc_new w _), cell_of_row _ _ 2 _ tt (0, 0) (heap_alloc_new w _), hl.kp hk, hr.kp hk⟩
def RetTR (t : T) (w : World) (e : Ending) (w' : World) : Prop := ∃ p, e = .returned (.pointer p) ∧ TR w' t p ∧ Below w.heap.size w w'

set_option maxRecDepth 100000 in
set_option maxHeartbeats 400000 in
theorem spots_any : ∀ (t : T) (v : Option Addr) (d : Int) (w : World), TR w t v → 0 ≤ d → d + t.size ≤ 1073741824 →
    Calls Try.prog 20 #[.pointer v, .int .i64 d] w (RetOW 41 ePair (t.spots d) w)
  | .nil, v, d, w, h, h0, h1 => by
    have h' : v = none := h
    subst h'
    go_enter Try.func20, Try.ntmps20
    go_wp2
    go_ret
    exact ⟨_, rfl, OW.nil, Below.refl _ _⟩
  | .node k l r, v, d, w, h, h0, h1 => by
    obtain ⟨b, pl, pr, rfl, hb, c0, c1, c2, hl, hr⟩ := h
    simp only [T.size] at h1
    have HI := hide (fun w h => spots_any l pl (d + 1) w h (by omega) (by omega))
    have HJ := hide (fun w h => spots_any r pr (d + 1) w h (by omega) (by omega))
    have HL := hide hl
    have HR := hide hr
    clear hl hr
    have HM1 : Hid (((l.spots (d + 1)).length + [(k, d)].length) * 16 ≤ 140737488355328) := hide (by rw [T.spots_len]; simp; omega)
    have HM2 : Hid ((l.spots (d + 1)).length + [(k, d)].length ≤ maxLen) := hide (by rw [T.spots_len]; simp [maxLen]; omega)
    have HM3 : Hid (((l.spots (d + 1) ++ [(k, d)]).length + (r.spots (d + 1)).length) * 16 ≤ 140737488355328) := hide (by rw [List.length_append, T.spots_len, T.spots_len]; simp; omega)
    have HM4 : Hid ((l.spots (d + 1) ++ [(k, d)]).length + (r.spots (d + 1)).length ≤ maxLen) := hide (by rw [List.length_append, T.spots_len, T.spots_len]; simp [maxLen]; omega)
    have KS : Hid (∀ W', Kp w W' → (W'.cell? ⟨b, 0, none⟩ = some (.int .i64 k) ∧ W'.cell? ⟨b, 1, none⟩ = some (.pointer pl) ∧ W'.cell? ⟨b, 2, none⟩ = some (.pointer pr) ∧ Kp w W')) :=
      hide fun W' h => ⟨h.cell c0, h.cell c1, h.cell c2, h⟩
    have K0 := Kp.refl w
    have K1 := K0.drew
    have hw : IntKind.i64.wrap (d + 1) = d + 1 := IntWalk.i64_in _ (by omega)
    clear h0 h1
    go_enter Try.func20, Try.ntmps20
    go_wp2_with fail
    go_region_held3 (fun w' => w'.cell? ⟨b, 0, none⟩ = some (.int .i64 k) ∧ w'.cell? ⟨b, 1, none⟩ = some (.pointer pl) ∧ w'.cell? ⟨b, 2, none⟩ = some (.pointer pr) ∧ Kp w w')
      ((go_split_ands
        refine KS.out _ ?_
        (focus ((repeat (first | (with_reducible assumption) | (with_reducible exact Kp.refl _) | (with_reducible apply Kp.drew) | (with_reducible apply Kp.drewN) | ((with_reducible apply Kp.setR); (focus (first | (with_reducible assumption) | (simp; done) | (simp; omega)))) | (with_reducible apply Kp.alloc) | ((with_reducible apply Kp.call); (with_reducible assumption)) | ((with_reducible apply Kp.app); (with_reducible assumption)))); done))))
      (first
        | (go_at_call_of 20 (Value.pointer pl); refine (HI.out _ (HL.out.below (Kp.bel ?_))).mono ?_; (go_split_ands; (focus ((repeat (first | (with_reducible assumption) | (with_reducible exact Kp.refl _) | (with_reducible apply Kp.drew) | (with_reducible apply Kp.drewN) | ((with_reducible apply Kp.setR); (focus (first | (with_reducible assumption) | (simp; done) | (simp; omega)))) | (with_reducible apply Kp.alloc) | ((with_reducible apply Kp.call); (with_reducible assumption)) | ((with_reducible apply Kp.app); (with_reducible assumption)))); done))); rintro e w1 ⟨v1, rfl, ho1', hb1⟩; have ho1 := OW.more ho1' (Kp.size (w := w) (by go_split_ands; (focus ((repeat (first | (with_reducible assumption) | (with_reducible exact Kp.refl _) | (with_reducible apply Kp.drew) | (with_reducible apply Kp.drewN) | ((with_reducible apply Kp.setR); (focus (first | (with_reducible assumption) | (simp; done) | (simp; omega)))) | (with_reducible apply Kp.alloc) | ((with_reducible apply Kp.call); (with_reducible assumption)) | ((with_reducible apply Kp.app); (with_reducible assumption)))); done)))); have lo1 := ho1.lo; have hi1 := ho1.hi; clear ho1')
        | (go_at_call_of 20 (Value.pointer pr); refine (HJ.out _ (HR.out.below (Kp.bel ?_))).mono ?_; (go_split_ands; (focus ((repeat (first | (with_reducible assumption) | (with_reducible exact Kp.refl _) | (with_reducible apply Kp.drew) | (with_reducible apply Kp.drewN) | ((with_reducible apply Kp.setR); (focus (first | (with_reducible assumption) | (simp; done) | (simp; omega)))) | (with_reducible apply Kp.alloc) | ((with_reducible apply Kp.call); (with_reducible assumption)) | ((with_reducible apply Kp.app); (with_reducible assumption)))); done))); rintro e w2 ⟨v2, rfl, ho2', hb2⟩; have ho2 := OW.more ho2' (Kp.size (w := w) (by go_split_ands; (focus ((repeat (first | (with_reducible assumption) | (with_reducible exact Kp.refl _) | (with_reducible apply Kp.drew) | (with_reducible apply Kp.drewN) | ((with_reducible apply Kp.setR); (focus (first | (with_reducible assumption) | (simp; done) | (simp; omega)))) | (with_reducible apply Kp.alloc) | ((with_reducible apply Kp.call); (with_reducible assumption)) | ((with_reducible apply Kp.app); (with_reducible assumption)))); done)))); try have hap := lo1.apart (Hi.mono ho2'.hi (by simp)); clear ho2')
        | ((with_reducible refine step_app (l := l.spots (d + 1)) (m := [(k, d)]) row_spot v1 ?_ (.tmp 13) (.tmp 20) ?_ ?_ ?_ ?_ HM1.out HM2.out (Kp.size (w := w) ?_) ?_); (with_reducible rfl); (with_reducible rfl); rfl; (focus ((repeat (first | (with_reducible assumption) | (with_reducible apply OW.alloc) | (with_reducible apply OW.drew) | (with_reducible apply OW.drewN) | ((with_reducible apply OW.setCellR); (with_reducible assumption)) | ((with_reducible apply OW.belowR); (with_reducible assumption)) | ((with_reducible apply OW.keptR); (with_reducible assumption); (with_reducible assumption)))); done)); (show RD _ _ (.slice (some ⟨_, 0, none⟩) 1 1) _; (focus ((repeat (first | (with_reducible assumption) | exact RD.new1 _ rfl | (refine RD.new1e _ ?_ rfl; simp; done) | (with_reducible apply RD.alloc) | (with_reducible apply RD.drew) | (with_reducible apply RD.drewN) | ((with_reducible apply RD.belowR); (with_reducible assumption)))); done))); (go_split_ands; (focus ((repeat (first | (with_reducible assumption) | (with_reducible exact Kp.refl _) | (with_reducible apply Kp.drew) | (with_reducible apply Kp.drewN) | ((with_reducible apply Kp.setR); (focus (first | (with_reducible assumption) | (simp; done) | (simp; omega)))) | (with_reducible apply Kp.alloc) | ((with_reducible apply Kp.call); (with_reducible assumption)) | ((with_reducible apply Kp.app); (with_reducible assumption)))); done))); intro v3 w3 ho3 hg3 hat3; have hi3 := ho3.hi)
        | ((with_reducible refine step_app (l := l.spots (d + 1) ++ [(k, d)]) (m := r.spots (d + 1)) row_spot v3 ?_ (.tmp 21) (.tmp 28) ?_ ?_ ?_ ?_ HM3.out HM4.out (Kp.size (w := w) ?_) ?_); (with_reducible rfl); (with_reducible rfl); rfl; (focus ((repeat (first | (with_reducible assumption) | (with_reducible apply OW.alloc) | (with_reducible apply OW.drew) | (with_reducible apply OW.drewN) | ((with_reducible apply OW.setCellR); (with_reducible assumption)) | ((with_reducible apply OW.belowR); (with_reducible assumption)) | ((with_reducible apply OW.keptR); (with_reducible assumption); (with_reducible assumption)))); done)); (show RD _ _ v2 _; refine OW.rd (B := w.heap.size) (e := 41) ?_; (focus ((repeat (first | (with_reducible assumption) | (with_reducible apply OW.alloc) | (with_reducible apply OW.drew) | (with_reducible apply OW.drewN) | ((with_reducible apply OW.setCellR); (with_reducible assumption)) | ((with_reducible apply OW.belowR); (with_reducible assumption)) | ((with_reducible apply OW.keptR); (with_reducible assumption); (with_reducible assumption)))); done))); (go_split_ands; (focus ((repeat (first | (with_reducible assumption) | (with_reducible exact Kp.refl _) | (with_reducible apply Kp.drew) | (with_reducible apply Kp.drewN) | ((with_reducible apply Kp.setR); (focus (first | (with_reducible assumption) | (simp; done) | (simp; omega)))) | (with_reducible apply Kp.alloc) | ((with_reducible apply Kp.call); (with_reducible assumption)) | ((with_reducible apply Kp.app); (with_reducible assumption)))); done))); intro v4 w4 ho4 hg4 hat4))
    all_goals
      go_wp2
      go_ret
      exact ⟨_, rfl, ho4, Kp.bel (by (focus ((repeat (first | (with_reducible assumption) | (with_reducible exact Kp.refl _) | (with_reducible apply Kp.drew) | (with_reducible apply Kp.drewN) | ((with_reducible apply Kp.setR); (focus (first | (with_reducible assumption) | (simp; done) | (simp; omega)))) | (with_reducible apply Kp.alloc) | ((with_reducible apply Kp.call); (with_reducible assumption)) | ((with_reducible apply Kp.app); (with_reducible assumption)))); done)))⟩
end Go.Proofs.Ytcpponjknmkfaaa
