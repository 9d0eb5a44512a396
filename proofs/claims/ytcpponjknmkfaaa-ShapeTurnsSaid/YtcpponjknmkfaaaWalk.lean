/-
  shape.walk: what it appends. Conditions: the list reads as l (RD), the variable holds a slice of the call's own (OB).
-/
import Derived.Test.YtcpponjknmkfaaaOutVar
import Derived.Test.YtcpponjknmkfaaaParents
namespace Go.Proofs.Ytcpponjknmkfaaa
open Go.ChangeShapes Go.WideShapes Go.ChangeAt Go.RowKit
set_option linter.unusedVariables false
set_option linter.unusedSimpArgs false

def gk (l : List IP) (k : Nat) : Int := (l.getD k (0, 0)).1
theorem gk_eq (l : List IP) (k : Nat) (h : k < l.length) : gk l k = l[k].1 := by simp [gk, List.getD_eq_getElem?_getD, List.getElem?_eq_getElem h]
def walkF (l : List IP) (last : Bool) (lo hi : Nat) : List Int :=
  if h : lo < hi then
    have := topS_in l lo hi h
    if last then walkF l last lo (topS l lo hi).1 ++ walkF l last ((topS l lo hi).1 + 1) hi ++ [gk l (topS l lo hi).1]
    else [gk l (topS l lo hi).1] ++ walkF l last lo (topS l lo hi).1 ++ walkF l last ((topS l lo hi).1 + 1) hi
  else []
termination_by hi - lo
theorem walkF_nil (l : List IP) (last : Bool) (lo hi : Nat) (h : ¬ lo < hi) : walkF l last lo hi = [] := by rw [walkF, dif_neg h]
theorem walkF_last (l : List IP) (lo hi : Nat) (h : lo < hi) : walkF l true lo hi = walkF l true lo (topS l lo hi).1 ++ walkF l true ((topS l lo hi).1 + 1) hi ++ [gk l (topS l lo hi).1] := by rw [walkF, dif_pos h, if_pos rfl]
theorem walkF_first (l : List IP) (lo hi : Nat) (h : lo < hi) : walkF l false lo hi = [gk l (topS l lo hi).1] ++ walkF l false lo (topS l lo hi).1 ++ walkF l false ((topS l lo hi).1 + 1) hi := by rw [walkF, dif_pos h, if_neg (by simp)]
theorem walkF_len (l : List IP) (last : Bool) (lo hi : Nat) : (walkF l last lo hi).length = hi - lo := by
  by_cases h : lo < hi
  · have ht := topS_in l lo hi h
    have h1 := walkF_len l last lo (topS l lo hi).1
    have h2 := walkF_len l last ((topS l lo hi).1 + 1) hi
    cases last
    · rw [walkF_first l lo hi h]; simp [h1, h2]; omega
    · rw [walkF_last l lo hi h]; simp [h1, h2]; omega
  · rw [walkF_nil l last lo hi h]; simp; omega
termination_by hi - lo

theorem seg_split (l : List IP) (lo at_ hi : Nat) (h1 : lo ≤ at_) (h2 : at_ < hi) (h3 : hi ≤ l.length) : (l.take hi).drop lo = (l.take at_).drop lo ++ [l[at_]'(by omega)] ++ (l.take hi).drop (at_ + 1) := by
  apply List.ext_getElem?
  intro j
  by_cases hj : j < hi - lo
  · rw [List.getElem?_drop, List.getElem?_take, if_pos (by omega)]
    rcases Nat.lt_trichotomy (lo + j) at_ with h | h | h
    · rw [List.append_assoc, List.getElem?_append_left (by simp; omega), List.getElem?_drop, List.getElem?_take, if_pos h]
    · rw [List.append_assoc, List.getElem?_append_right (by simp; omega)]
      rw [show j - (List.drop lo (List.take at_ l)).length = 0 from by simp; omega]
      rw [h]; simp
    · rw [List.getElem?_append_right (by simp; omega)]
      simp only [List.length_append, List.length_drop, List.length_take, List.length_singleton]
      rw [List.getElem?_drop, List.getElem?_take, if_pos (by omega)]
      congr 1; omega
  · rw [List.getElem?_eq_none (by simp; omega), List.getElem?_eq_none (by simp; omega)]
set_option maxRecDepth 100000 in
set_option maxHeartbeats 4000000 in
theorem walk_any (l : List IP) (v : Value) (g B : Nat) (last : Bool) (hl : l.length ≤ 1000) (hg : B ≤ g) (hvg : 0 < l.length → Lo B v) (n : Nat) : ∀ (lo hi : Nat) (acc : List Int) (w : World), hi - lo ≤ n → lo ≤ hi → hi ≤ l.length → acc.length + (hi - lo) ≤ 100000 →
    RD w ePair v l → OB w B g 23 3 eInt acc → B ≤ w.heap.size →
    Calls Try.prog 35 #[v, .int .i64 (lo : Int), .int .i64 (hi : Int), .bool last, .pointer (some ⟨g, 0, none⟩)] w (WPost B g 23 3 eInt (.tuple #[]) (acc ++ walkF l last lo hi) w) := by
  induction n with
  | zero =>
    intro lo hi acc w h1 h2 h3 h4 hr ho hB
    obtain rfl : lo = hi := by omega
    have H1 := hide (walkF_nil l last lo lo (by omega))
    have HO := hide ho
    clear ho hr hvg
    go_enter Try.func35, Try.ntmps35
    go_wp2
    obtain ⟨u, hb, hu, hn⟩ := HO.out
    exact bodyPost_ret (v := .tuple #[]) (by simp [results, Try.results35, go_sem]) rfl ⟨rfl, by rw [H1.out, List.append_nil]; exact HO.out, KO.refl (hb.cell 0)⟩
  | succ n ih =>
    intro lo hi acc w h1 h2 h3 h4 hr ho hB
    by_cases hlt : lo < hi
    · have hne : ((lo : Int) == (hi : Int)) = false := by simp; omega
      have htin := topS_in l lo hi hlt
      have HWL := hide (walkF_last l lo hi hlt)
      have HWF := hide (walkF_first l lo hi hlt)
      have hw1 := walkF_len l last lo (topS l lo hi).1
      have hw2 := walkF_len l last ((topS l lo hi).1 + 1) hi
      have HTC := hide (fun w h => top_any l v lo hi w h hlt h3)
      obtain ⟨⟨at_, al⟩, htop⟩ : ∃ p, p = topS l lo hi := ⟨_, rfl⟩
      rw [← htop] at htin HTC HWL HWF hw1 hw2
      simp only at htin HTC HWL HWF hw1 hw2
      obtain ⟨hi1, hi2⟩ := htin
      have hatl : at_ < l.length := by omega
      obtain ⟨A, c, rfl, hc, hm⟩ := hr.shape
      have HGK := hide (gk_eq l at_ hatl)
      have HR := hide hr
      have HO := hide ho
      have HIH := hide ih
      have HVG := hide hvg
      obtain ⟨u, hb, hu, hn⟩ := ho
      clear hr ih hvg htop
      have hwr : IntKind.i64.wrap ((at_ : Int) + 1) = (at_ : Int) + 1 := IntWalk.i64_in _ (by omega)
      have HLH := hide h4
      have HBh := hide hB
      have HC := hide (fun lo hi acc W k1 k2 k3 k4 hr ho hb => HIH.out lo hi acc W k1 k2 k3 k4 hr ho hb)
      obtain ⟨b, o, rfl, _, c0, c1⟩ := HR.out.pair (k := at_) hatl
      have b1 : (at_ : Int) < (l.length : Int) := by omega
      have b0 : (0 : Int) ≤ (at_ : Int) := by omega
      cases last with
      | false =>
        have HM1 : Hid ((acc.length + [l[at_].1].length) * 8 ≤ 140737488355328) := hide (by simp; omega)
        have HM2 : Hid (acc.length + [l[at_].1].length ≤ maxLen) := hide (by simp [maxLen]; omega)
        have hblk : u.ownBlock ≠ some b := fun e => by have := HVG.out (by omega) b rfl; have := (hu.lt b e).1; omega
        have KS : Hid (∀ W', KV u w W' → (W'.cell? ⟨b, o + at_ * 2, none⟩ = some (.int .i64 l[at_].1) ∧ W'.cell? ⟨g, 0, none⟩ = some u ∧ W'.frozen? ⟨g, 0, none⟩ = false ∧ KV u w W')) :=
          hide fun W' h => ⟨h.cell hblk c0, h.cell hn (hb.cell 0), (h.frozen hb.lt hn).trans (hb.frozen 0), h⟩
        go_enter Try.func35, Try.ntmps35
        go_wp2_with (go_at_call 49; refine (HTC.out _ HR.out).mono ?_; rintro e w1 ⟨rfl, m, rfl⟩)
        have g0 := hb.cell 0
        have f0 := hb.frozen 0
        have L1 : ∀ n o, ((w.drewN n).alloc o).cell? ⟨g, 0, none⟩ = some u := fun n o => ((Kp.refl w).drewN.alloc).cell g0
        have L2 : ∀ n o', ((w.drewN n).alloc o').cell? ⟨b, o + at_ * 2, none⟩ = some (.int .i64 l[at_].1) := fun n o' => ((Kp.refl w).drewN.alloc).cell c0
        go_region_law (((with_reducible refine step_app (l := acc) (m := [l[at_].1]) row_int u ?_ (.tmp 27) (.tmp 33) ?_ ?_ ?_ ?_ HM1.out HM2.out (Nat.le_trans HBh.out (KV.size (w := w) (v := u) ?_)) ?_); (with_reducible rfl); (with_reducible rfl); rfl; (focus ((repeat (first | (with_reducible assumption) | (with_reducible apply OW.alloc) | (with_reducible apply OW.drew) | (with_reducible apply OW.drewN) | ((with_reducible apply OW.setCellR); (with_reducible assumption)) | ((with_reducible apply OW.belowR); (with_reducible assumption)) | ((with_reducible apply OW.keptR); (with_reducible assumption); (with_reducible assumption)))); done)); (show RD _ _ (.slice (some ⟨_, 0, none⟩) 1 1) _; (focus ((repeat (first | (with_reducible assumption) | exact RD.new1 _ rfl | (refine RD.new1e _ ?_ rfl; simp; done) | (with_reducible apply RD.alloc) | (with_reducible apply RD.drew) | (with_reducible apply RD.drewN) | ((with_reducible apply RD.belowR); (with_reducible assumption)))); done))); (go_split_ands; (focus ((repeat (first | (with_reducible assumption) | (with_reducible exact KV.refl _ _) | (with_reducible apply KV.drew) | (with_reducible apply KV.drewN) | (with_reducible apply KV.alloc) | ((with_reducible apply KV.call); (with_reducible assumption)) | ((with_reducible apply KV.app); (with_reducible assumption)))); done))); intro v3 w3 ho3 hg3 hat3; obtain ⟨_, sc3, sf3, _⟩ := KS.out w3 (by go_split_ands; (focus ((repeat (first | (with_reducible assumption) | (with_reducible exact KV.refl _ _) | (with_reducible apply KV.drew) | (with_reducible apply KV.drewN) | (with_reducible apply KV.alloc) | ((with_reducible apply KV.call); (with_reducible assumption)) | ((with_reducible apply KV.app); (with_reducible assumption)))); done))); obtain ⟨A3, N3, c3, rfl⟩ := ho3.rd.slice))
        all_goals
          have hat9 := hat3.imp id (fun e => show Hi w.heap.size (Value.slice A3 N3 c3) from fun k hk => by rw [e] at hk; injection hk with hk; subst hk; simp <;> omega)
          obtain ⟨ho4, hk4⟩ := ob_app hb hu hn (show KV u w w3 by (focus ((repeat (first | (with_reducible assumption) | (with_reducible exact KV.refl _ _) | (with_reducible apply KV.drew) | (with_reducible apply KV.drewN) | (with_reducible apply KV.alloc) | ((with_reducible apply KV.call); (with_reducible assumption)) | ((with_reducible apply KV.app); (with_reducible assumption)))); done))) ho3 hat9
          have HR4 := hide (HR.out.ko HO.out hk4 HVG.out hg)
          have HZ4 := hide hk4.size
          have HO4 := hide ho4
          have HK4 := hide hk4
          clear ho4 hk4 hat9 hat3 hg3 ho3 sc3 sf3 L1 L2 g0 f0
          go_wp2_with fail
          refine (HC.out lo at_ (acc ++ [l[at_].1]) _ (by omega) hi1 (by omega) (by (try simp only [List.length_append, List.length_cons, List.length_nil]); skip; omega) HR4.out HO4.out (Nat.le_trans HBh.out (by have := HZ4.out; omega))).mono ?_
          rintro e w5 ⟨rfl, ho5, hk5⟩
          have HR5 := hide (HR4.out.ko HO4.out hk5 HVG.out hg)
          have HZ5 : Hid (w.heap.size ≤ w5.heap.size) := hide (by have h1 := HZ4.out; have h2 := hk5.size; omega)
          have HO5 := hide ho5
          have HK5 := hide (HK4.out.trans hk5)
          clear ho5 hk5
          go_wp2_with fail
          refine (HC.out (at_ + 1) hi (acc ++ [l[at_].1] ++ walkF l false lo at_) _ (by omega) (by omega) (by omega) (by (try simp only [List.length_append, List.length_cons, List.length_nil]); rw [hw1]; omega) HR5.out HO5.out (Nat.le_trans HBh.out (by have := HZ5.out; omega))).mono ?_
          rintro e w6 ⟨rfl, ho6, hk6⟩
          have HR6 := hide (HR5.out.ko HO5.out hk6 HVG.out hg)
          have HZ6 : Hid (w.heap.size ≤ w6.heap.size) := hide (by have h1 := HZ5.out; have h2 := hk6.size; omega)
          have HO6 := hide ho6
          have HK6 := hide (HK5.out.trans hk6)
          clear ho6 hk6
          go_wp2
          exact bodyPost_ret (v := .tuple #[]) (by simp [results, Try.results35, go_sem]) rfl ⟨rfl, by rw [HWF.out, HGK.out]; simpa [List.append_assoc] using HO6.out, HK6.out⟩
      | true =>
        go_enter Try.func35, Try.ntmps35
        go_wp2_with (go_at_call 49; refine (HTC.out _ HR.out).mono ?_; rintro e w1 ⟨rfl, m, rfl⟩)
        have HO4 := hide (HO.out.kp ((Kp.refl w).drewN (n := m)))
        have HR4 := hide (HR.out.kp ((Kp.refl w).drewN (n := m)))
        have HZ4 := hide ((Kp.refl w).drewN (n := m)).size
        have HK4 : Hid (KO g B w (w.drewN m)) := hide ((KO.refl (hb.cell 0)).on (Kp.refl w).drewN)
        refine (HC.out lo at_ acc _ (by omega) hi1 (by omega) (by (try simp only [List.length_append, List.length_cons, List.length_nil]); skip; omega) HR4.out HO4.out (Nat.le_trans HBh.out (by have := HZ4.out; omega))).mono ?_
        rintro e w5 ⟨rfl, ho5, hk5⟩
        have HR5 := hide (HR4.out.ko HO4.out hk5 HVG.out hg)
        have HZ5 : Hid (w.heap.size ≤ w5.heap.size) := hide (by have h1 := HZ4.out; have h2 := hk5.size; omega)
        have HO5 := hide ho5
        have HK5 := hide (HK4.out.trans hk5)
        clear ho5 hk5
        go_wp2_with fail
        refine (HC.out (at_ + 1) hi (acc ++ walkF l true lo at_) _ (by omega) (by omega) (by omega) (by (try simp only [List.length_append, List.length_cons, List.length_nil]); rw [hw1]; omega) HR5.out HO5.out (Nat.le_trans HBh.out (by have := HZ5.out; omega))).mono ?_
        rintro e w6 ⟨rfl, ho6, hk6⟩
        have HR6 := hide (HR5.out.ko HO5.out hk6 HVG.out hg)
        have HZ6 : Hid (w.heap.size ≤ w6.heap.size) := hide (by have h1 := HZ5.out; have h2 := hk6.size; omega)
        have HO6 := hide ho6
        have HK6 := hide (HK5.out.trans hk6)
        clear ho6 hk6
        obtain ⟨u6, hb6, hu6, hn6⟩ := HO6.out
        obtain ⟨b', o', e1, _, d0, _⟩ := HR6.out.pair (k := at_) hatl
        injection e1 with e1
        injection e1 with e2 e3
        subst e2 e3
        obtain ⟨acc6, hacc⟩ : ∃ a, a = acc ++ walkF l true lo at_ ++ walkF l true (at_ + 1) hi := ⟨_, rfl⟩
        have hal : acc6.length ≤ 100000 := by rw [hacc]; simp only [List.length_append, hw1, hw2]; omega
        have HACC := hide hacc
        rw [← hacc] at hu6
        clear hacc
        have HM1 : Hid ((acc6.length + [l[at_].1].length) * 8 ≤ 140737488355328) := hide (by simp; omega)
        have HM2 : Hid (acc6.length + [l[at_].1].length ≤ maxLen) := hide (by simp [maxLen]; omega)
        have hblk : u6.ownBlock ≠ some b := fun e => by have := HVG.out (by omega) b rfl; have := (hu6.lt b e).1; omega
        have KS : Hid (∀ W', KV u6 w6 W' → (W'.cell? ⟨b, o + at_ * 2, none⟩ = some (.int .i64 l[at_].1) ∧ W'.cell? ⟨g, 0, none⟩ = some u6 ∧ W'.frozen? ⟨g, 0, none⟩ = false ∧ KV u6 w6 W')) :=
          hide fun W' h => ⟨h.cell hblk d0, h.cell hn6 (hb6.cell 0), (h.frozen hb6.lt hn6).trans (hb6.frozen 0), h⟩
        have g0 := hb6.cell 0
        have f0 := hb6.frozen 0
        have HB6 : Hid (B ≤ w6.heap.size) := hide (Nat.le_trans HBh.out HZ6.out)
        have L1 : ∀ n o, ((w6.drewN n).alloc o).cell? ⟨g, 0, none⟩ = some u6 := fun n o => ((Kp.refl w6).drewN.alloc).cell g0
        have L2 : ∀ n o', ((w6.drewN n).alloc o').cell? ⟨b, o + at_ * 2, none⟩ = some (.int .i64 l[at_].1) := fun n o' => ((Kp.refl w6).drewN.alloc).cell d0
        have L3 : ∀ o, (w6.drew.alloc o).cell? ⟨g, 0, none⟩ = some u6 := fun o => ((Kp.refl w6).drew.alloc).cell g0
        have L4 : ∀ o', (w6.drew.alloc o').cell? ⟨b, o + at_ * 2, none⟩ = some (.int .i64 l[at_].1) := fun o' => ((Kp.refl w6).drew.alloc).cell d0
        have L5 : ∀ o, ((w6.alloc o).drew).cell? ⟨g, 0, none⟩ = some u6 := fun o => ((Kp.refl w6).alloc.drew).cell g0
        have L6 : ∀ o', ((w6.alloc o').drew).cell? ⟨b, o + at_ * 2, none⟩ = some (.int .i64 l[at_].1) := fun o' => ((Kp.refl w6).alloc.drew).cell d0
        have L7 : ∀ o, (w6.alloc o).cell? ⟨g, 0, none⟩ = some u6 := fun o => ((Kp.refl w6).alloc).cell g0
        have L8 : ∀ o', (w6.alloc o').cell? ⟨b, o + at_ * 2, none⟩ = some (.int .i64 l[at_].1) := fun o' => ((Kp.refl w6).alloc).cell d0
        clear c0
        go_wp2_with fail
        go_region_law (((with_reducible refine step_app (l := acc6) (m := [l[at_].1]) row_int u6 ?_ (.tmp 53) (.tmp 59) ?_ ?_ ?_ ?_ HM1.out HM2.out (Nat.le_trans HB6.out (KV.size (w := w6) (v := u6) ?_)) ?_); (with_reducible rfl); (with_reducible rfl); rfl; (focus ((repeat (first | (with_reducible assumption) | (with_reducible apply OW.alloc) | (with_reducible apply OW.drew) | (with_reducible apply OW.drewN) | ((with_reducible apply OW.setCellR); (with_reducible assumption)) | ((with_reducible apply OW.belowR); (with_reducible assumption)) | ((with_reducible apply OW.keptR); (with_reducible assumption); (with_reducible assumption)))); done)); (show RD _ _ (.slice (some ⟨_, 0, none⟩) 1 1) _; (focus ((repeat (first | (with_reducible assumption) | exact RD.new1 _ rfl | (refine RD.new1e _ ?_ rfl; simp; done) | (with_reducible apply RD.alloc) | (with_reducible apply RD.drew) | (with_reducible apply RD.drewN) | ((with_reducible apply RD.belowR); (with_reducible assumption)))); done))); (go_split_ands; (focus ((repeat (first | (with_reducible assumption) | (with_reducible exact KV.refl _ _) | (with_reducible apply KV.drew) | (with_reducible apply KV.drewN) | (with_reducible apply KV.alloc) | ((with_reducible apply KV.call); (with_reducible assumption)) | ((with_reducible apply KV.app); (with_reducible assumption)))); done))); intro v3 w3 ho3 hg3 hat3; obtain ⟨_, sc3, sf3, _⟩ := KS.out w3 (by go_split_ands; (focus ((repeat (first | (with_reducible assumption) | (with_reducible exact KV.refl _ _) | (with_reducible apply KV.drew) | (with_reducible apply KV.drewN) | (with_reducible apply KV.alloc) | ((with_reducible apply KV.call); (with_reducible assumption)) | ((with_reducible apply KV.app); (with_reducible assumption)))); done))); obtain ⟨A3, N3, c3, rfl⟩ := ho3.rd.slice))
        all_goals
          have hat9 := hat3.imp id (fun e => show Hi w6.heap.size (Value.slice A3 N3 c3) from fun k hk => by rw [e] at hk; injection hk with hk; subst hk; simp <;> omega)
          obtain ⟨ho4, hk4⟩ := ob_app hb6 hu6 hn6 (show KV u6 w6 w3 by (focus ((repeat (first | (with_reducible assumption) | (with_reducible exact KV.refl _ _) | (with_reducible apply KV.drew) | (with_reducible apply KV.drewN) | (with_reducible apply KV.alloc) | ((with_reducible apply KV.call); (with_reducible assumption)) | ((with_reducible apply KV.app); (with_reducible assumption)))); done))) ho3 hat9
          have HO7 := hide ho4
          have HK7 := hide (HK6.out.trans hk4)
          clear ho4 hk4 hat9 hat3 hg3 ho3 sc3 sf3 L1 L2 L3 L4 L5 L6 L7 L8 g0 f0
          go_wp2
          exact bodyPost_ret (v := .tuple #[]) (by simp [results, Try.results35, go_sem]) rfl ⟨rfl, by rw [HWL.out, HGK.out]; have h := HO7.out; rw [HACC.out] at h; simpa [List.append_assoc] using h, HK7.out⟩
    · have hne : ((lo : Int) == (hi : Int)) = true := by simp; omega
      have H1 := hide (walkF_nil l last lo hi hlt)
      have HO := hide ho
      clear ho hr hvg ih
      go_enter Try.func35, Try.ntmps35
      go_wp2
      obtain ⟨u, hb, hu, hn⟩ := HO.out
      exact bodyPost_ret (v := .tuple #[]) (by simp [results, Try.results35, go_sem]) rfl ⟨rfl, by rw [H1.out, List.append_nil]; exact HO.out, KO.refl (hb.cell 0)⟩
end Go.Proofs.Ytcpponjknmkfaaa
