/-
  The spots of a tree that is written (grow.spots, vine.spots, ..), told: what they answer. Conditions: the tree as MR says; of spots: the variable holds a slice of the call's own (OB).
-/
import Derived.Test.YthbapflabjogkaaHeapOneM7

namespace Go.Proofs.Ythbapflabjogkaa
open Go.ChangeShapes Go.WideShapes Go.ChangeAt Go.RowKit
set_option linter.unusedVariables false
set_option linter.unusedSimpArgs false

def MT.spotsBy {α : Type} (key : α → Int) : MT α → Int → List IP
  | .nil, _ => []
  | .node a l r, d => l.spotsBy key (d + 1) ++ [(key a, d)] ++ r.spotsBy key (d + 1)
theorem MT.spotsBy_len {α : Type} (key : α → Int) : ∀ (t : MT α) (d : Int), (t.spotsBy key d).length = t.size
  | .nil, _ => rfl
  | .node a l r, d => by simp [spotsBy, size, spotsBy_len key l, spotsBy_len key r]; omega
set_option maxRecDepth 100000 in
set_option maxHeartbeats 4000000 in
theorem grow_spots_any (g B : Nat) (hg : B ≤ g) : ∀ (t : MT IP) (p : Option Addr) (F : List Nat) (d : Int) (acc : List IP) (w : World), MR w 77 ePair t p F → 0 ≤ d → d + t.size ≤ 1000000 → acc.length + t.size ≤ 1000000 →
    OB w B g 24 51 ePair acc → B ≤ w.heap.size →
    Calls Try.prog 45 #[.pointer p, .int .i64 d, .pointer (some ⟨g, 0, none⟩)] w (WPost B g 24 51 ePair (.tuple #[]) (acc ++ t.spotsBy Prod.fst d) w)
  | .nil, p, F, d, acc, w, hm, h1, h2, h3, ho, hB => by
    obtain ⟨rfl, rfl⟩ := hm
    have HO := hide ho
    clear ho
    go_enter Try.func45, Try.ntmps45
    go_wp2
    obtain ⟨u, hb, hu, hn⟩ := HO.out
    exact bodyPost_ret (v := .tuple #[]) (by simp [results, Try.results45, go_sem]) rfl ⟨rfl, by simpa [MT.spotsBy] using HO.out, KO.refl (hb.cell 0)⟩
  | .node a l r, p, F, d, acc, w, hm, h1, h2, h3, ho, hB => by
    obtain ⟨b, pl, pr, Fl, Fr, rfl, rfl, hbc, _, _, _, hml, hmr⟩ := hm
    simp only [MT.size] at h2 h3
    have hll := MT.spotsBy_len Prod.fst l (d + 1)
    have HI := hide (fun F acc w hm h3 ho hB => grow_spots_any g B hg l pl F (d + 1) acc w hm (by omega) (by omega) h3 ho hB)
    have HJ := hide (fun F acc w hm h3 ho hB => grow_spots_any g B hg r pr F (d + 1) acc w hm (by omega) (by omega) h3 ho hB)
    have HBC := hide hbc
    have HML := hide hml
    have HMR := hide hmr
    have HO := hide ho
    have HBh := hide hB
    have cL : w.cell? ⟨b, 2, none⟩ = some (.pointer pl) := hbc.cell 2
    have hw : IntKind.i64.wrap (d + 1) = d + 1 := IntWalk.i64_in _ (by omega)
    clear hml hmr ho hbc
    go_enter Try.func45, Try.ntmps45
    go_wp2_with fail
    with_reducible refine (HI.out _ acc _ HML.out (by omega) HO.out HBh.out).mono ?_
    rintro e w5 ⟨rfl, ho5, hk5⟩
    have HO5 := hide ho5
    have HBC5 := hide (HBC.out.ko HO.out hk5 (by decide) (by decide))
    have HMR5 := hide (HMR.out.ko HO.out hk5 (by decide) (by decide))
    have HB5 : Hid (B ≤ w5.heap.size) := hide (Nat.le_trans HBh.out hk5.size)
    have HK5 := hide hk5
    clear ho5 hk5 cL
    obtain ⟨u5, hb5, hu5, hn5⟩ := HO5.out
    have d0 : w5.cell? ⟨b, 0, none⟩ = some (.int .i64 (Prod.fst a)) := HBC5.out.cell 0
    have hblk : u5.ownBlock ≠ some b := hu5.bc_ne HBC5.out (by decide)
    obtain ⟨acc5, hacc⟩ : ∃ x, x = acc ++ l.spotsBy Prod.fst (d + 1) := ⟨_, rfl⟩
    have hal : acc5.length = acc.length + l.size := by rw [hacc, List.length_append, hll]
    have HACC := hide hacc
    rw [← hacc] at hu5
    have HAL := hide hal
    have HM1 : Hid ((acc5.length + [((Prod.fst a, d) : IP)].length) * 16 ≤ 140737488355328) := hide (by simp; omega)
    have HM2 : Hid (acc5.length + [((Prod.fst a, d) : IP)].length ≤ maxLen) := hide (by simp [maxLen]; omega)
    clear hacc hal hll
    have KS : Hid (∀ W', KV u5 w5 W' → (W'.cell? ⟨b, 0, none⟩ = some (.int .i64 (Prod.fst a)) ∧ W'.cell? ⟨g, 0, none⟩ = some u5 ∧ W'.frozen? ⟨g, 0, none⟩ = false ∧ KV u5 w5 W')) := hide fun W' h => ⟨h.cell hblk d0, h.cell hn5 (hb5.cell 0), (h.frozen hb5.lt hn5).trans (hb5.frozen 0), h⟩
    have g0 := hb5.cell 0
    have f0 := hb5.frozen 0
    have L1 : ∀ n o, ((w5.drewN n).alloc o).cell? ⟨g, 0, none⟩ = some u5 := fun n o => ((Kp.refl w5).drewN.alloc).cell g0
    have L2 : ∀ n o', ((w5.drewN n).alloc o').cell? ⟨b, 0, none⟩ = some (.int .i64 (Prod.fst a)) := fun n o' => ((Kp.refl w5).drewN.alloc).cell d0
    have L3 : ∀ o, (w5.drew.alloc o).cell? ⟨g, 0, none⟩ = some u5 := fun o => ((Kp.refl w5).drew.alloc).cell g0
    have L4 : ∀ o', (w5.drew.alloc o').cell? ⟨b, 0, none⟩ = some (.int .i64 (Prod.fst a)) := fun o' => ((Kp.refl w5).drew.alloc).cell d0
    have L5 : ∀ o, ((w5.alloc o).drew).cell? ⟨g, 0, none⟩ = some u5 := fun o => ((Kp.refl w5).alloc.drew).cell g0
    have L6 : ∀ o', ((w5.alloc o').drew).cell? ⟨b, 0, none⟩ = some (.int .i64 (Prod.fst a)) := fun o' => ((Kp.refl w5).alloc.drew).cell d0
    have L7 : ∀ o, (w5.alloc o).cell? ⟨g, 0, none⟩ = some u5 := fun o => ((Kp.refl w5).alloc).cell g0
    have L8 : ∀ o', (w5.alloc o').cell? ⟨b, 0, none⟩ = some (.int .i64 (Prod.fst a)) := fun o' => ((Kp.refl w5).alloc).cell d0
    go_wp2_with fail
    go_region_law (((with_reducible refine step_app (l := acc5) (m := [((Prod.fst a, d) : IP)]) row_spot u5 ?_ (.tmp 19) (.tmp 27) ?_ ?_ ?_ ?_ HM1.out HM2.out (Nat.le_trans HB5.out (KV.size (w := w5) (v := u5) ?_)) ?_); (with_reducible rfl); (with_reducible rfl); rfl; (focus ((repeat (first | (with_reducible assumption) | (with_reducible apply OW.alloc) | (with_reducible apply OW.drew) | (with_reducible apply OW.drewN) | ((with_reducible apply OW.setCellR); (with_reducible assumption)) | ((with_reducible apply OW.belowR); (with_reducible assumption)) | ((with_reducible apply OW.keptR); (with_reducible assumption); (with_reducible assumption)))); done)); (show RD _ _ (.slice (some ⟨_, 0, none⟩) 1 1) _; (focus ((repeat (first | (with_reducible assumption) | exact RD.new1 _ rfl | (refine RD.new1e _ ?_ rfl; simp; done) | (with_reducible apply RD.alloc) | (with_reducible apply RD.drew) | (with_reducible apply RD.drewN) | ((with_reducible apply RD.belowR); (with_reducible assumption)))); done))); (go_split_ands; (focus ((repeat (first | (with_reducible assumption) | (with_reducible exact KV.refl _ _) | (with_reducible apply KV.drew) | (with_reducible apply KV.drewN) | (with_reducible apply KV.alloc) | ((with_reducible apply KV.call); (with_reducible assumption)) | ((with_reducible apply KV.app); (with_reducible assumption)))); done))); intro v3 w3 ho3 hg3 hat3; obtain ⟨_, sc3, sf3, _⟩ := KS.out w3 (by go_split_ands; (focus ((repeat (first | (with_reducible assumption) | (with_reducible exact KV.refl _ _) | (with_reducible apply KV.drew) | (with_reducible apply KV.drewN) | (with_reducible apply KV.alloc) | ((with_reducible apply KV.call); (with_reducible assumption)) | ((with_reducible apply KV.app); (with_reducible assumption)))); done))); obtain ⟨A3, N3, c3, rfl⟩ := ho3.rd.slice))
    all_goals
      have hat9 := hat3.imp id (fun e => show Hi w5.heap.size (Value.slice A3 N3 c3) from fun k hk => by rw [e] at hk; injection hk with hk; subst hk; simp <;> omega)
      obtain ⟨ho4, hk4⟩ := ob_app hb5 hu5 hn5 (show KV u5 w5 w3 by (focus ((repeat (first | (with_reducible assumption) | (with_reducible exact KV.refl _ _) | (with_reducible apply KV.drew) | (with_reducible apply KV.drewN) | (with_reducible apply KV.alloc) | ((with_reducible apply KV.call); (with_reducible assumption)) | ((with_reducible apply KV.app); (with_reducible assumption)))); done))) ho3 hat9
      clear hat9 hat3 hg3 ho3 sc3 sf3 L1 L2 L3 L4 L5 L6 L7 L8 g0 f0
      have HBC6 := hide (HBC5.out.ko HO5.out hk4 (by decide) (by decide))
      have HMR6 := hide (HMR5.out.ko HO5.out hk4 (by decide) (by decide))
      have HZ6 := hide hk4.size
      have HO6 := hide ho4
      have HK6 := hide (HK5.out.trans hk4)
      have cR := HBC6.out.cell 3
      simp only [nodeC, ePair, List.cons_append, List.nil_append, List.getElem?_cons_succ, List.getElem?_cons_zero] at cR
      clear ho4 hk4
      go_wp2_with fail
      with_reducible refine (HJ.out _ (acc5 ++ [((Prod.fst a, d) : IP)]) _ HMR6.out (by simp only [List.length_append, List.length_cons, List.length_nil]; have := HAL.out; omega) HO6.out (Nat.le_trans HB5.out HZ6.out)).mono ?_
      rintro e w7 ⟨rfl, ho7, hk7⟩
      have HO7 := hide ho7
      have HK7 := hide (HK6.out.trans hk7)
      clear ho7 hk7
      go_wp2
      exact bodyPost_ret (v := .tuple #[]) (by simp [results, Try.results45, go_sem]) rfl ⟨rfl, by have h := HO7.out; rw [HACC.out] at h; simpa [MT.spotsBy, List.append_assoc] using h, HK7.out⟩
end Go.Proofs.Ythbapflabjogkaa
