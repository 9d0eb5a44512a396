/-
  The spots of a tree that is written (grow.spots, vine.spots, ..), told: what they answer
  grow.place, grow.put, grow.told: what they answer
-/
import Derived.Test.YtcljlnagpjilaaaGreatDoorG3

set_option linter.unusedVariables false
set_option linter.unusedSimpArgs false
set_option maxRecDepth 100000
set_option maxHeartbeats 8000000
namespace Go.Proofs.YtcljlnagpjilaaaGreatDoor
open Go.ChangeShapes Go.WideShapes Go.ChangeAt Go.RowKit
def MT.spotsBy {α : Type} (key : α -> Int) : MT α -> Int -> List IP
 | .nil, _ => []
 | .node a l r, d => l.spotsBy key (d + 1) ++ [(key a, d)] ++ r.spotsBy key (d + 1)
theorem MT.spotsBy_len {α : Type} (key : α -> Int) : ∀ (t : MT α) (d : Int), (t.spotsBy key d).length = t.size
 | .nil, _ => rfl
 | .node a l r, d => by simp [spotsBy, size, spotsBy_len key l, spotsBy_len key r]; omega
theorem grow_spots_any (g B : Nat) (hg : B <= g) : ∀ (t : MT IP) (p : Option Addr) (F : List Nat) (d : Int) (acc : List IP) (w : World), MR w 241 ePair t p F -> 0 <= d -> d + t.size <= 1000000 -> acc.length + t.size <= 1000000 ->
  OB w B g 72 108 ePair acc -> B <= w.heap.size ->
  Calls Tryz.prog 171 #[.pointer p, .int .i64 d, .pointer (some ⟨g, 0, none⟩)] w (WPost B g 72 108 ePair (.tuple #[]) (acc ++ t.spotsBy Prod.fst d) w)
 | .nil, p, F, d, acc, w, hm, h1, h2, h3, ho, hB => by
  obtain ⟨rfl, rfl⟩ := hm
  have HO := hide ho
  clear ho
  go_enter Tryz.func171, Tryz.ntmps171
  go_wp2
  obtain ⟨u, hb, hu, hn⟩ := HO.out
  exact bodyPost_ret (v := .tuple #[]) (by simp [results, Tryz.results171, go_sem]) rfl ⟨rfl, by simpa [MT.spotsBy] using HO.out, KO.refl (hb.cell 0)⟩
 | .node a l r, p, F, d, acc, w, hm, h1, h2, h3, ho, hB => by
  obtain ⟨b, pl, pr, Fl, Fr, rfl, rfl, hbc, _, _, _, hml, hmr⟩ := hm
  simp only [MT.size] at h2 h3
  have hll := MT.spotsBy_len Prod.fst l (d + 1)
  have HI := hide (fun F acc w hm h3 ho hB => grow_spots_any g B hg l pl F (d + 1) acc w hm (by omega) (by omega) h3 ho hB)
  have HJ := hide (fun F acc w hm h3 ho hB => grow_spots_any g B hg r pr F (d + 1) acc w hm (by omega) (by omega) h3 ho hB)
  have HBC := hide hbc
  have HML := hide hml
  have HMR := hide hmr
  have HO := hide ho
  have HBh := hide hB
  have cL : w.cell? ⟨b, 2, none⟩ = some (.pointer pl) := hbc.cell 2
  have hw : IntKind.i64.wrap (d + 1) = d + 1 := IntWalk.i64_in _ (by omega)
  clear hml hmr ho hbc
  go_enter Tryz.func171, Tryz.ntmps171
  go_wp2_with fail
  with_reducible refine (HI.out _ acc _ HML.out (by omega) HO.out HBh.out).mono ?_
  rintro e w5 ⟨rfl, ho5, hk5⟩
  have HO5 := hide ho5
  have HBC5 := hide (HBC.out.ko HO.out hk5 (by decide) (by decide))
  have HMR5 := hide (HMR.out.ko HO.out hk5 (by decide) (by decide))
  have HB5 : Hid (B <= w5.heap.size) := hide (Nat.le_trans HBh.out hk5.size)
  have HK5 := hide hk5
  clear ho5 hk5 cL
  obtain ⟨u5, hb5, hu5, hn5⟩ := HO5.out
  have d0 : w5.cell? ⟨b, 0, none⟩ = some (.int .i64 (Prod.fst a)) := HBC5.out.cell 0
  have hblk : u5.ownBlock ≠ some b := hu5.bc_ne HBC5.out (by decide)
  obtain ⟨acc5, hacc⟩ : ∃ x, x = acc ++ l.spotsBy Prod.fst (d + 1) := ⟨_, rfl⟩
  have hal : acc5.length = acc.length + l.size := by rw [hacc, List.length_append, hll]
  have HACC := hide hacc
  rw [<- hacc] at hu5
  have HAL := hide hal
  have HM1 : Hid ((acc5.length + [((Prod.fst a, d) : IP)].length) * 16 <= 140737488355328) := hide (by simp; omega)
  have HM2 : Hid (acc5.length + [((Prod.fst a, d) : IP)].length <= maxLen) := hide (by simp [maxLen]; omega)
  clear hacc hal hll
  have KS : Hid (∀ W', KV u5 w5 W' -> (W'.cell? ⟨b, 0, none⟩ = some (.int .i64 (Prod.fst a)) /\ W'.cell? ⟨g, 0, none⟩ = some u5 /\ W'.frozen? ⟨g, 0, none⟩ = false /\ KV u5 w5 W')) := hide fun W' h => ⟨h.cell hblk d0, h.cell hn5 (hb5.cell 0), (h.frozen hb5.lt hn5).trans (hb5.frozen 0), h⟩
  have g0 := hb5.cell 0
  have f0 := hb5.frozen 0
  have L1 : ∀ n o, ((w5.drewN n).alloc o).cell? ⟨g, 0, none⟩ = some u5 := fun n o => ((Kp.refl w5).drewN.alloc).cell g0
  have L2 : ∀ n o', ((w5.drewN n).alloc o').cell? ⟨b, 0, none⟩ = some (.int .i64 (Prod.fst a)) := fun n o' => ((Kp.refl w5).drewN.alloc).cell d0
  have L3 : ∀ o, (w5.drew.alloc o).cell? ⟨g, 0, none⟩ = some u5 := fun o => ((Kp.refl w5).drew.alloc).cell g0
  have L4 : ∀ o', (w5.drew.alloc o').cell? ⟨b, 0, none⟩ = some (.int .i64 (Prod.fst a)) := fun o' => ((Kp.refl w5).drew.alloc).cell d0
  have L5 : ∀ o, ((w5.alloc o).drew).cell? ⟨g, 0, none⟩ = some u5 := fun o => ((Kp.refl w5).alloc.drew).cell g0
  have L6 : ∀ o', ((w5.alloc o').drew).cell? ⟨b, 0, none⟩ = some (.int .i64 (Prod.fst a)) := fun o' => ((Kp.refl w5).alloc.drew).cell d0
  have L7 : ∀ o, (w5.alloc o).cell? ⟨g, 0, none⟩ = some u5 := fun o => ((Kp.refl w5).alloc).cell g0
  have L8 : ∀ o', (w5.alloc o').cell? ⟨b, 0, none⟩ = some (.int .i64 (Prod.fst a)) := fun o' => ((Kp.refl w5).alloc).cell d0
  go_wp2_with fail
  go_region_law (((with_reducible refine step_app (l := acc5) (m := [((Prod.fst a, d) : IP)]) row_spot u5 ?_ (.tmp 19) (.tmp 27) ?_ ?_ ?_ ?_ HM1.out HM2.out (Nat.le_trans HB5.out (KV.size (w := w5) (v := u5) ?_)) ?_); (with_reducible rfl); (with_reducible rfl); rfl; (exact OW.auto); (show RD _ _ (.slice (some ⟨_, 0, none⟩) 1 1) _; (exact RD.auto)); (go_split_ands; (focus ((repeat (first | (with_reducible first | assumption | exact KV.refl _ _ | apply KV.drew | apply KV.drewN | apply KV.alloc) | ((with_reducible apply KV.call); (with_reducible assumption)) | ((with_reducible apply KV.app); (with_reducible assumption)))); done))); intro v3 w3 ho3 hg3 hat3; obtain ⟨_, sc3, sf3, _⟩ := KS.out w3 (by go_split_ands; (focus ((repeat (first | (with_reducible first | assumption | exact KV.refl _ _ | apply KV.drew | apply KV.drewN | apply KV.alloc) | ((with_reducible apply KV.call); (with_reducible assumption)) | ((with_reducible apply KV.app); (with_reducible assumption)))); done))); obtain ⟨A3, N3, c3, rfl⟩ := ho3.rd.slice))
  all_goals
   have hat9 := hat3.imp id (fun e => show Hi w5.heap.size (Value.slice A3 N3 c3) from fun k hk => by rw [e] at hk; injection hk with hk; subst hk; simp <;> omega)
   obtain ⟨ho4, hk4⟩ := ob_app hb5 hu5 hn5 (show KV u5 w5 w3 by (focus ((repeat (first | (with_reducible first | assumption | exact KV.refl _ _ | apply KV.drew | apply KV.drewN | apply KV.alloc) | ((with_reducible apply KV.call); (with_reducible assumption)) | ((with_reducible apply KV.app); (with_reducible assumption)))); done))) ho3 hat9
   clear hat9 hat3 hg3 ho3 sc3 sf3 L1 L2 L3 L4 L5 L6 L7 L8 g0 f0
   have HBC6 := hide (HBC5.out.ko HO5.out hk4 (by decide) (by decide))
   have HMR6 := hide (HMR5.out.ko HO5.out hk4 (by decide) (by decide))
   have HZ6 := hide hk4.size
   have HO6 := hide ho4
   have HK6 := hide (HK5.out.trans hk4)
   have cR := HBC6.out.cell 3
   simp only [nodeC, ePair, List.cons_append, List.nil_append, List.getElem?_cons_succ, List.getElem?_cons_zero] at cR
   clear ho4 hk4
   go_wp2_with fail
   with_reducible refine (HJ.out _ (acc5 ++ [((Prod.fst a, d) : IP)]) _ HMR6.out (by simp only [List.length_append, List.length_cons, List.length_nil]; have := HAL.out; omega) HO6.out (Nat.le_trans HB5.out HZ6.out)).mono ?_
   rintro e w7 ⟨rfl, ho7, hk7⟩
   have HO7 := hide ho7
   have HK7 := hide (HK6.out.trans hk7)
   clear ho7 hk7
   go_wp2
   exact bodyPost_ret (v := .tuple #[]) (by simp [results, Tryz.results171, go_sem]) rfl ⟨rfl, by have h := HO7.out; rw [HACC.out] at h; simpa [MT.spotsBy, List.append_assoc] using h, HK7.out⟩
theorem zip_spots_any (g B : Nat) (hg : B <= g) : ∀ (t : MT IP) (p : Option Addr) (F : List Nat) (d : Int) (acc : List IP) (w : World), MR w 245 ePair t p F -> 0 <= d -> d + t.size <= 1000000 -> acc.length + t.size <= 1000000 ->
  OB w B g 72 108 ePair acc -> B <= w.heap.size ->
  Calls Tryz.prog 176 #[.pointer p, .int .i64 d, .pointer (some ⟨g, 0, none⟩)] w (WPost B g 72 108 ePair (.tuple #[]) (acc ++ t.spotsBy Prod.fst d) w)
 | .nil, p, F, d, acc, w, hm, h1, h2, h3, ho, hB => by
  obtain ⟨rfl, rfl⟩ := hm
  have HO := hide ho
  clear ho
  go_enter Tryz.func176, Tryz.ntmps176
  go_wp2
  obtain ⟨u, hb, hu, hn⟩ := HO.out
  exact bodyPost_ret (v := .tuple #[]) (by simp [results, Tryz.results176, go_sem]) rfl ⟨rfl, by simpa [MT.spotsBy] using HO.out, KO.refl (hb.cell 0)⟩
 | .node a l r, p, F, d, acc, w, hm, h1, h2, h3, ho, hB => by
  obtain ⟨b, pl, pr, Fl, Fr, rfl, rfl, hbc, _, _, _, hml, hmr⟩ := hm
  simp only [MT.size] at h2 h3
  have hll := MT.spotsBy_len Prod.fst l (d + 1)
  have HI := hide (fun F acc w hm h3 ho hB => zip_spots_any g B hg l pl F (d + 1) acc w hm (by omega) (by omega) h3 ho hB)
  have HJ := hide (fun F acc w hm h3 ho hB => zip_spots_any g B hg r pr F (d + 1) acc w hm (by omega) (by omega) h3 ho hB)
  have HBC := hide hbc
  have HML := hide hml
  have HMR := hide hmr
  have HO := hide ho
  have HBh := hide hB
  have cL : w.cell? ⟨b, 2, none⟩ = some (.pointer pl) := hbc.cell 2
  have hw : IntKind.i64.wrap (d + 1) = d + 1 := IntWalk.i64_in _ (by omega)
  clear hml hmr ho hbc
  go_enter Tryz.func176, Tryz.ntmps176
  go_wp2_with fail
  with_reducible refine (HI.out _ acc _ HML.out (by omega) HO.out HBh.out).mono ?_
  rintro e w5 ⟨rfl, ho5, hk5⟩
  have HO5 := hide ho5
  have HBC5 := hide (HBC.out.ko HO.out hk5 (by decide) (by decide))
  have HMR5 := hide (HMR.out.ko HO.out hk5 (by decide) (by decide))
  have HB5 : Hid (B <= w5.heap.size) := hide (Nat.le_trans HBh.out hk5.size)
  have HK5 := hide hk5
  clear ho5 hk5 cL
  obtain ⟨u5, hb5, hu5, hn5⟩ := HO5.out
  have d0 : w5.cell? ⟨b, 0, none⟩ = some (.int .i64 (Prod.fst a)) := HBC5.out.cell 0
  have hblk : u5.ownBlock ≠ some b := hu5.bc_ne HBC5.out (by decide)
  obtain ⟨acc5, hacc⟩ : ∃ x, x = acc ++ l.spotsBy Prod.fst (d + 1) := ⟨_, rfl⟩
  have hal : acc5.length = acc.length + l.size := by rw [hacc, List.length_append, hll]
  have HACC := hide hacc
  rw [<- hacc] at hu5
  have HAL := hide hal
  have HM1 : Hid ((acc5.length + [((Prod.fst a, d) : IP)].length) * 16 <= 140737488355328) := hide (by simp; omega)
  have HM2 : Hid (acc5.length + [((Prod.fst a, d) : IP)].length <= maxLen) := hide (by simp [maxLen]; omega)
  clear hacc hal hll
  have KS : Hid (∀ W', KV u5 w5 W' -> (W'.cell? ⟨b, 0, none⟩ = some (.int .i64 (Prod.fst a)) /\ W'.cell? ⟨g, 0, none⟩ = some u5 /\ W'.frozen? ⟨g, 0, none⟩ = false /\ KV u5 w5 W')) := hide fun W' h => ⟨h.cell hblk d0, h.cell hn5 (hb5.cell 0), (h.frozen hb5.lt hn5).trans (hb5.frozen 0), h⟩
  have g0 := hb5.cell 0
  have f0 := hb5.frozen 0
  have L1 : ∀ n o, ((w5.drewN n).alloc o).cell? ⟨g, 0, none⟩ = some u5 := fun n o => ((Kp.refl w5).drewN.alloc).cell g0
  have L2 : ∀ n o', ((w5.drewN n).alloc o').cell? ⟨b, 0, none⟩ = some (.int .i64 (Prod.fst a)) := fun n o' => ((Kp.refl w5).drewN.alloc).cell d0
  have L3 : ∀ o, (w5.drew.alloc o).cell? ⟨g, 0, none⟩ = some u5 := fun o => ((Kp.refl w5).drew.alloc).cell g0
  have L4 : ∀ o', (w5.drew.alloc o').cell? ⟨b, 0, none⟩ = some (.int .i64 (Prod.fst a)) := fun o' => ((Kp.refl w5).drew.alloc).cell d0
  have L5 : ∀ o, ((w5.alloc o).drew).cell? ⟨g, 0, none⟩ = some u5 := fun o => ((Kp.refl w5).alloc.drew).cell g0
  have L6 : ∀ o', ((w5.alloc o').drew).cell? ⟨b, 0, none⟩ = some (.int .i64 (Prod.fst a)) := fun o' => ((Kp.refl w5).alloc.drew).cell d0
  have L7 : ∀ o, (w5.alloc o).cell? ⟨g, 0, none⟩ = some u5 := fun o => ((Kp.refl w5).alloc).cell g0
  have L8 : ∀ o', (w5.alloc o').cell? ⟨b, 0, none⟩ = some (.int .i64 (Prod.fst a)) := fun o' => ((Kp.refl w5).alloc).cell d0
  go_wp2_with fail
  go_region_law (((with_reducible refine step_app (l := acc5) (m := [((Prod.fst a, d) : IP)]) row_spot u5 ?_ (.tmp 19) (.tmp 26) ?_ ?_ ?_ ?_ HM1.out HM2.out (Nat.le_trans HB5.out (KV.size (w := w5) (v := u5) ?_)) ?_); (with_reducible rfl); (with_reducible rfl); rfl; (exact OW.auto); (show RD _ _ (.slice (some ⟨_, 0, none⟩) 1 1) _; (exact RD.auto)); (go_split_ands; (focus ((repeat (first | (with_reducible first | assumption | exact KV.refl _ _ | apply KV.drew | apply KV.drewN | apply KV.alloc) | ((with_reducible apply KV.call); (with_reducible assumption)) | ((with_reducible apply KV.app); (with_reducible assumption)))); done))); intro v3 w3 ho3 hg3 hat3; obtain ⟨_, sc3, sf3, _⟩ := KS.out w3 (by go_split_ands; (focus ((repeat (first | (with_reducible first | assumption | exact KV.refl _ _ | apply KV.drew | apply KV.drewN | apply KV.alloc) | ((with_reducible apply KV.call); (with_reducible assumption)) | ((with_reducible apply KV.app); (with_reducible assumption)))); done))); obtain ⟨A3, N3, c3, rfl⟩ := ho3.rd.slice))
  all_goals
   have hat9 := hat3.imp id (fun e => show Hi w5.heap.size (Value.slice A3 N3 c3) from fun k hk => by rw [e] at hk; injection hk with hk; subst hk; simp <;> omega)
   obtain ⟨ho4, hk4⟩ := ob_app hb5 hu5 hn5 (show KV u5 w5 w3 by (focus ((repeat (first | (with_reducible first | assumption | exact KV.refl _ _ | apply KV.drew | apply KV.drewN | apply KV.alloc) | ((with_reducible apply KV.call); (with_reducible assumption)) | ((with_reducible apply KV.app); (with_reducible assumption)))); done))) ho3 hat9
   clear hat9 hat3 hg3 ho3 sc3 sf3 L1 L2 L3 L4 L5 L6 L7 L8 g0 f0
   have HBC6 := hide (HBC5.out.ko HO5.out hk4 (by decide) (by decide))
   have HMR6 := hide (HMR5.out.ko HO5.out hk4 (by decide) (by decide))
   have HZ6 := hide hk4.size
   have HO6 := hide ho4
   have HK6 := hide (HK5.out.trans hk4)
   have cR := HBC6.out.cell 3
   simp only [nodeC, ePair, List.cons_append, List.nil_append, List.getElem?_cons_succ, List.getElem?_cons_zero] at cR
   clear ho4 hk4
   go_wp2_with fail
   with_reducible refine (HJ.out _ (acc5 ++ [((Prod.fst a, d) : IP)]) _ HMR6.out (by simp only [List.length_append, List.length_cons, List.length_nil]; have := HAL.out; omega) HO6.out (Nat.le_trans HB5.out HZ6.out)).mono ?_
   rintro e w7 ⟨rfl, ho7, hk7⟩
   have HO7 := hide ho7
   have HK7 := hide (HK6.out.trans hk7)
   clear ho7 hk7
   go_wp2
   exact bodyPost_ret (v := .tuple #[]) (by simp [results, Tryz.results176, go_sem]) rfl ⟨rfl, by have h := HO7.out; rw [HACC.out] at h; simpa [MT.spotsBy, List.append_assoc] using h, HK7.out⟩
theorem MR.uniq {α : Type} {E : Enc α} {nt : TypeId} {w : World} : ∀ {t t' : MT α} {p : Option Addr} {F F' : List Nat}, MR w nt E t p F -> MR w nt E t' p F' -> t.size = t'.size
 | .nil, .nil, _, _, _, _, _ => rfl
 | .nil, .node _ _ _, p, F, F', ⟨h, _⟩, ⟨b, _, _, _, _, h', _⟩ => by rw [h] at h'; cases h'
 | .node _ _ _, .nil, p, F, F', ⟨b, _, _, _, _, h', _⟩, ⟨h, _⟩ => by rw [h] at h'; cases h'
 | .node a l r, .node a' l' r', p, F, F', ⟨b, pl, pr, Fl, Fr, h1, _, h2, _, _, _, hl, hr⟩, ⟨b', pl', pr', Fl', Fr', h1', _, h2', _, _, _, hl', hr'⟩ => by
  rw [h1] at h1'
  injection h1' with h1'
  injection h1' with h1'
  subst h1'
  unfold BC at h2 h2'
  rw [h2] at h2'
  injection h2' with h2'
  injection h2' with h3
  have h4 : nodeC E a pl pr = nodeC E a' pl' pr' := by simpa using congrArg Array.toList h3
  unfold nodeC at h4
  have h5 := (List.append_inj h4 (by rw [E.len, E.len])).2
  simp at h5
  obtain ⟨rfl, rfl⟩ := h5
  simp only [MT.size]
  rw [MR.uniq hl hl', MR.uniq hr hr']
noncomputable def szAt {α : Type} (nt : TypeId) (E : Enc α) (v : Value) (w : World) : Nat := by
 classical
 exact if h : ∃ (q : Addr) (t : MT α) (p : Option Addr) (F : List Nat), v = .pointer (some q) /\ w.cell? q = some (.pointer p) /\ MR w nt E t p F then h.choose_spec.choose.size else 0
theorem szAt_eq {α : Type} {E : Enc α} {nt : TypeId} {w : World} {q : Addr} {t : MT α} {p : Option Addr} {F : List Nat} (hc : w.cell? q = some (.pointer p)) (hm : MR w nt E t p F) : szAt nt E (.pointer (some q)) w = t.size := by
 unfold szAt
 have h : ∃ (q' : Addr) (t : MT α) (p : Option Addr) (F : List Nat), Value.pointer (some q) = .pointer (some q') /\ w.cell? q' = some (.pointer p) /\ MR w nt E t p F := ⟨q, t, p, F, rfl, hc, hm⟩
 rw [dif_pos h]
 obtain ⟨p', F', h1, h2, h3⟩ := h.choose_spec.choose_spec
 generalize h.choose_spec.choose = t' at h3
 generalize h.choose = q' at h1 h2
 injection h1 with h1
 injection h1 with h1
 subst h1
 rw [hc] at h2
 injection h2 with h2
 injection h2 with h2
 subst h2
 exact (MR.uniq hm h3).symm
def Dir {α : Type} (kf : α -> Int) (C : List (Fm α)) (key : Int) : Prop := ∀ f ∈ C, (f.left = true -> key < kf f.a) /\ (f.left = false -> kf f.a < key)
theorem Dir.nil {α : Type} {kf : α -> Int} {key : Int} : Dir kf [] key := fun f hf => by cases hf
theorem Dir.cons {α : Type} {kf : α -> Int} {C : List (Fm α)} {key : Int} {f : Fm α} (h : Dir kf C key) (hf : (f.left = true -> key < kf f.a) /\ (f.left = false -> kf f.a < key)) : Dir kf (f :: C) key := fun x hx => by
 rcases List.mem_cons.1 hx with rfl | hx
 ·exact hf
 ·exact h x hx
structure At_ {α : Type} (w : World) (nt : TypeId) (E : Enc α) (kf : α -> Int) (r0 : Addr) (T : MT α) (F : List Nat) (key : Int) (C : List (Fm α)) (q : Addr) (t : MT α) (p : Option Addr) (Fc Ft : List Nat) : Prop where
 zp : ZP w nt E r0 C q Fc
 cell : w.cell? q = some (.pointer p)
 fz : w.frozen? q = false
 mr : MR w nt E t p Ft
 dis : ∀ x ∈ Ft, x ∉ Fc
 eq : T = plug C t
 dir : Dir kf C key
 sub : ∀ x, x ∈ Ft ∨ x ∈ Fc -> x ∈ F
theorem At_.start {α : Type} {w : World} {nt : TypeId} {E : Enc α} {kf : α -> Int} {r0 : Addr} {T : MT α} {F : List Nat} {p : Option Addr} (key : Int) (hc : w.cell? r0 = some (.pointer p)) (hf : w.frozen? r0 = false) (hm : MR w nt E T p F) :
  At_ w nt E kf r0 T F key [] r0 T p [] F := ⟨ZP.nil, hc, hf, hm, by simp, rfl, Dir.nil, fun x hx => by simpa using hx⟩
theorem At_.down {α : Type} {w : World} {nt : TypeId} {E : Enc α} {kf : α -> Int} {r0 : Addr} {T : MT α} {F : List Nat} {key : Int} {C : List (Fm α)} {q : Addr} {a : α} {l r : MT α} {b : Nat} {pl pr : Option Addr} {Fc Fl Fr : List Nat}
  (h : At_ w nt E kf r0 T F key C q (.node a l r) (some ⟨b, 0, none⟩) Fc (b :: (Fl ++ Fr))) (hb : BC w b nt (nodeC E a pl pr)) (h1 : b ∉ Fl) (h2 : b ∉ Fr) (h3 : ∀ x ∈ Fl, x ∉ Fr) (hl : MR w nt E l pl Fl) (hr : MR w nt E r pr Fr) :
  (key < kf a -> At_ w nt E kf r0 T F key (⟨a, true, r⟩ :: C) ⟨b, E.size, none⟩ l pl (b :: (Fr ++ Fc)) Fl) /\ (kf a < key -> At_ w nt E kf r0 T F key (⟨a, false, l⟩ :: C) ⟨b, E.size + 1, none⟩ r pr (b :: (Fl ++ Fc)) Fr) := by
 have hbc : b ∉ Fc := h.dis b (by simp)
 have hlc : ∀ x ∈ Fl, x ∉ Fc := fun x hx => h.dis x (by simp [hx])
 have hrc : ∀ x ∈ Fr, x ∉ Fc := fun x hx => h.dis x (by simp [hx])
 refine ⟨fun hk => ⟨?_, ?_, hb.frozen _, hl, ?_, by rw [h.eq]; rfl, h.dir.cons ⟨fun _ => hk, fun h => by simp at h⟩, ?_⟩, fun hk => ⟨?_, ?_, hb.frozen _, hr, ?_, by rw [h.eq]; rfl, h.dir.cons ⟨fun h => by simp at h, fun _ => hk⟩, ?_⟩⟩
 ·exact h.zp.push h.cell hb hl hr h1 h2 hbc hlc hrc true
 ·exact hb.link true
 ·intro x hx hx'
  rcases List.mem_cons.1 hx' with rfl | hx'
  ·exact h1 hx
  ·rcases List.mem_append.1 hx' with hx' | hx'
   ·exact h3 x hx hx'
   ·exact hlc x hx hx'
 ·intro x hx
  refine h.sub x ?_
  simp only [List.mem_cons, List.mem_append] at hx ⊢
  rcases hx with hx | hx | hx | hx
  ·exact .inl (.inr (.inl hx))
  ·exact .inl (.inl hx)
  ·exact .inl (.inr (.inr hx))
  ·exact .inr hx
 ·exact h.zp.push h.cell hb hl hr h1 h2 hbc hlc hrc false
 ·exact hb.link false
 ·intro x hx hx'
  rcases List.mem_cons.1 hx' with rfl | hx'
  ·exact h2 hx
  ·rcases List.mem_append.1 hx' with hx' | hx'
   ·exact h3 x hx' hx
   ·exact hrc x hx hx'
 ·intro x hx
  refine h.sub x ?_
  simp only [List.mem_cons, List.mem_append] at hx ⊢
  rcases hx with hx | hx | hx | hx
  ·exact .inl (.inr (.inr hx))
  ·exact .inl (.inl hx)
  ·exact .inl (.inr (.inl hx))
  ·exact .inr hx
def PlRel (w : World) (r0 : Addr) (T : MT IP) (F : List Nat) (key : Int) (nt : TypeId) (qv : Value) (wr : World) : Prop :=
 ∃ C q t p Fc Ft, qv = .pointer (some q) /\ At_ w nt ePair Prod.fst r0 T F key C q t p Fc Ft /\ w = wr
def PlPost (w : World) (r0 : Addr) (T : MT IP) (F : List Nat) (key : Int) (nt : TypeId) (e : Ending) (w' : World) : Prop :=
 ∃ C q t p Fc Ft, e = .returned (.pointer (some q)) /\ At_ w nt ePair Prod.fst r0 T F key C q t p Fc Ft /\ (∀ a l r, t = .node a l r -> a.1 = key) /\ w = w'
theorem place_any (T : MT IP) (r0 : Addr) (p0 : Option Addr) (F : List Nat) (key : Int) (w : World) (hc : w.cell? r0 = some (.pointer p0)) (hf : w.frozen? r0 = false) (hm : MR w 241 ePair T p0 F) :
  Calls Tryz.prog 170 #[.pointer (some r0), .int .i64 key] w (PlPost w r0 T F key 241) := by
 have HS := hide (At_.start (kf := Prod.fst) key hc hf hm)
 clear hc hf hm
 go_enter Tryz.func170, Tryz.ntmps170
 go_wp2
 go_loopw [0] (PlRel w r0 T F key 241) (szAt 241 ePair)
 case atStart => exact ⟨_, _, _, _, _, _, rfl, HS.out, rfl⟩
 case round =>
  obtain ⟨C, q, t, p, Fc, Ft, rfl, ha, rfl⟩ := hrel
  have HA := hide ha
  have c0 := ha.cell
  have hm := ha.mr
  clear ha
  cases p with
  | none =>
   obtain ⟨rfl, rfl⟩ := hm.of_none
   clear hm
   go_wp2
   go_ret
   exact ⟨C, q, _, _, Fc, _, rfl, HA.out, (fun a l r h => by cases h), rfl⟩
  | some ad =>
   obtain ⟨a, l, r, b, pl, pr, Fl, Fr, rfl, rfl, rfl, hb, g1, g2, g3, hl, hr⟩ := hm.of_some
   have ck : w.cell? ⟨b, 0, none⟩ = some (.int .i64 a.1) := hb.cell 0
   have HD := hide (HA.out.down hb g1 g2 g3 hl hr)
   have hms := szAt_eq c0 hm
   have hml : ∀ h : True, szAt 241 ePair (.pointer (some ⟨b, 2, none⟩)) w = l.size := fun _ => szAt_eq (hb.link true) hl
   have hmr : ∀ h : True, szAt 241 ePair (.pointer (some ⟨b, 3, none⟩)) w = r.size := fun _ => szAt_eq (hb.link false) hr
   have HMS := hide hms
   have HML := hide hml
   have HMR := hide hmr
   clear hm hb g1 g2 g3 hl hr hms hml hmr
   rcases Int.lt_trichotomy key a.1 with hk | hk | hk
   ·have d1 : (a.1 != key) = true := by rw [bne_iff_ne]; omega
    have HN := hide (HD.out.1 hk)
    go_wp2
    go_roundw
    case rel => exact ⟨_, _, _, _, _, _, rfl, HN.out, rfl⟩
    case measure => rw [HML.out trivial, HMS.out]; simp only [MT.size]; omega
   ·have d1 : (a.1 != key) = false := by simp [hk]
    have HK := hide hk
    clear hk
    go_wp2
    go_ret
    exact ⟨C, q, _, _, Fc, _, rfl, HA.out, (fun a' l' r' h => by injection h with h; subst h; exact HK.out.symm), rfl⟩
   ·have d1 : (a.1 != key) = true := by rw [bne_iff_ne]; omega
    have d2 : decide (key < a.1) = false := by simp; omega
    have HN := hide (HD.out.2 hk)
    go_wp2
    go_roundw
    case rel => exact ⟨_, _, _, _, _, _, rfl, HN.out, rfl⟩
    case measure => rw [HMR.out trivial, HMS.out]; simp only [MT.size]; omega
def ins : MT IP -> IP -> MT IP
 | .nil, p => .node p .nil .nil
 | .node a l r, p => if p.1 < a.1 then .node a (ins l p) r else if a.1 < p.1 then .node a l (ins r p) else .node a l r
theorem ins_on {f : Fm IP} {p : IP} (h : (f.left = true -> p.1 < f.a.1) /\ (f.left = false -> f.a.1 < p.1)) (t : MT IP) : ins (f.on t) p = f.on (ins t p) := by
 obtain ⟨a, left, o⟩ := f
 cases left with
 | true => simp [Fm.on, ins, h.1 rfl]
 | false =>
  have := h.2 rfl
  simp only at this
  simp [Fm.on, ins, this, show ¬ p.1 < a.1 by omega]
theorem ins_plug {p : IP} : ∀ (C : List (Fm IP)) (t : MT IP), Dir Prod.fst C p.1 -> ins (plug C t) p = plug C (ins t p)
 | [], _, _ => rfl
 | f :: C, t, h => by
  have h1 := ins_plug C (f.on t) (fun x hx => h x (by simp [hx]))
  rw [plug, h1, ins_on (h f (by simp)), plug]
def TPost {α : Type} (nt : TypeId) (E : Enc α) (r0 : Addr) (T' : MT α) (F : List Nat) (w : World) (e : Ending) (w' : World) : Prop :=
 ∃ p F', e = .returned (.tuple #[]) /\ w'.cell? r0 = some (.pointer p) /\ MR w' nt E T' p F' /\ (∀ x ∈ F', x ∈ F ∨ w.heap.size <= x) /\ w'.frozen? r0 = false /\ Kf (fun i => i = r0.block ∨ i ∈ F) w w'
theorem ZP.blk {α : Type} {w : World} {nt : TypeId} {E : Enc α} {r0 q : Addr} {C : List (Fm α)} {F : List Nat} (h : ZP w nt E r0 C q F) {F0 : List Nat} (hs : ∀ x ∈ F, x ∈ F0) : q.block = r0.block ∨ q.block ∈ F0 := by
 rcases h.at_ with rfl | h
 ·exact .inl rfl
 ·exact .inr (hs _ h)
theorem At_.put {α : Type} {w w1 : World} {nt : TypeId} {E : Enc α} {kf : α -> Int} {r0 : Addr} {T : MT α} {F : List Nat} {key : Int} {C : List (Fm α)} {q : Addr} {t : MT α} {p : Option Addr} {Fc Ft : List Nat} (h : At_ w nt E kf r0 T F key C q t p Fc Ft)
  (hr : r0.block ∉ F) (hk : Kp w w1) (hrl : r0.block < w.heap.size) (hfr : w.frozen? r0 = false) {t' : MT α} {p' : Option Addr} {Ft' : List Nat} (hm : MR w1 nt E t' p' Ft') (hd : ∀ x ∈ Ft', x ∉ Fc) (hq : q.block ∉ Ft') (hn : ∀ x ∈ Ft', x ∈ F ∨ w.heap.size <= x) :
  ∃ p0 F0, (w1.setCell q (.pointer p')).cell? r0 = some (.pointer p0) /\ MR (w1.setCell q (.pointer p')) nt E (plug C t') p0 F0 /\ (∀ x ∈ F0, x ∈ F ∨ w.heap.size <= x) /\ (w1.setCell q (.pointer p')).frozen? r0 = false /\ Kf (fun i => i = r0.block ∨ i ∈ F) w (w1.setCell q (.pointer p')) := by
 have hfc : r0.block ∉ Fc := fun hx => hr (h.sub _ (.inr hx))
 have hz1 := (h.zp.kp hk hrl).store hfc p'
 have hqc : (w1.setCell q (.pointer p')).cell? q = some (.pointer p') := World.cell?_setCell_same' w1 q _ (by rw [hk.cell h.cell]; rfl)
 obtain ⟨p0, F0, g1, g2, g3⟩ := hz1.close hqc (hm.set hq) hd
 refine ⟨p0, F0, g1, g2, fun x hx => ?_, ?_, ?_⟩
 ·rcases (g3 x).1 hx with hx | hx
  ·exact hn x hx
  ·exact .inl (h.sub x (.inr hx))
 ·rw [World.frozen?_setCell, hk.frozen hrl]; exact hfr
 ·exact (Kf.of hk).set (.inl (h.zp.blk fun x hx => h.sub x (.inr hx)))
theorem growPut_any (T : MT IP) (r0 : Addr) (p0 : Option Addr) (F : List Nat) (key val : Int) (w : World) (hc : w.cell? r0 = some (.pointer p0)) (hf : w.frozen? r0 = false) (hm : MR w 241 ePair T p0 F) (hr : r0.block ∉ F) :
  Calls Tryz.prog 132 #[.pointer (some r0), .agg #[.int .i64 key, .int .i64 val]] w (TPost 241 ePair r0 (ins T (key, val)) F w) := by
 have hrl := World.block_lt_of_cell? _ _ hc
 have hk1 : Kp w (w.alloc (.cells #[.int .i64 key, .int .i64 val] 141)) := (Kp.refl w).alloc
 have HP := hide (place_any T r0 p0 F key _ (hk1.cell hc) ((hk1.frozen hrl).trans hf) (hm.kp hk1))
 have HF := hide hf
 clear hc hf hm hk1
 go_enter Tryz.func132, Tryz.ntmps132
 go_wp2_with fail
 with_reducible refine HP.out.mono ?_
 rintro e w1 ⟨C, q, t, p, Fc, Ft, rfl, ha, hend, rfl⟩
 have HA := hide ha
 have HE := hide hend
 have c0 := ha.cell
 have f0 := ha.fz
 have hm := ha.mr
 have HW : Hid ((w.alloc (.cells #[.int .i64 key, .int .i64 val] 141)).heap.size = w.heap.size + 1) := hide (by simp)
 have HKW : Hid (Kp w (w.alloc (.cells #[.int .i64 key, .int .i64 val] 141))) := hide (Kp.refl w).alloc
 have HRL := hide hrl
 clear hend ha
 cases p with
 | none =>
  obtain ⟨rfl, rfl⟩ := hm.of_none
  clear hm
  have x0 : (w.alloc (.cells #[.int .i64 key, .int .i64 val] 141)).cell? ⟨w.heap.size, 0, none⟩ = some (.int .i64 key) := by simp [go_sem]
  have x1 : (w.alloc (.cells #[.int .i64 key, .int .i64 val] 141)).cell? ⟨w.heap.size, 1, none⟩ = some (.int .i64 val) := by simp [go_sem]
  have KX := Kp.refl (w.alloc (.cells #[.int .i64 key, .int .i64 val] 141))
  have c1 := (KX.alloc (o := .cells #[.int .i64 key, .int .i64 val, .pointer none, .pointer none] 241)).cell c0
  have f1 : ((w.alloc (.cells #[.int .i64 key, .int .i64 val] 141)).alloc (.cells #[.int .i64 key, .int .i64 val, .pointer none, .pointer none] 241)).frozen? q = false := (KX.alloc.frozen (World.block_lt_of_cell? _ _ c0)).trans f0
  clear KX
  go_wp2
  have hz := HW.out
  have hq : q.block ≠ (w.alloc (.cells #[.int .i64 key, .int .i64 val] 141)).heap.size := by have := World.block_lt_of_cell? _ _ c0; omega
  have hleaf : MR ((w.alloc (.cells #[.int .i64 key, .int .i64 val] 141)).alloc (.cells #[.int .i64 key, .int .i64 val, .pointer none, .pointer none] 241)) 241 ePair (.node (key, val) .nil .nil) (some ⟨(w.alloc (.cells #[.int .i64 key, .int .i64 val] 141)).heap.size, 0, none⟩) [(w.alloc (.cells #[.int .i64 key, .int .i64 val] 141)).heap.size] := MR.leaf (nt := 241) (E := ePair) _ (key, val)
  obtain ⟨p1, F1, g1, g2, g3, g4, g5⟩ := HA.out.put hr (Kp.refl _).alloc (by have := HRL.out; omega) ((HKW.out.frozen HRL.out).trans HF.out) hleaf (fun x hx hx' => by
   simp at hx
   have := HA.out.zp.bc x hx'
   obtain ⟨cs, h⟩ := this
   have := h.lt
   simp at this; omega) (by simp at hq ⊢; exact hq) (fun x hx => by simp at hx; right; omega)
  refine bodyPost_ret (v := .tuple #[]) (by simp [results, Tryz.results132, go_sem]) rfl ⟨p1, F1, rfl, ?_, ?_, fun x hx => ?_, ?_, ?_⟩
  ·simpa using g1
  ·have : ins T (key, val) = plug C (.node (key, val) .nil .nil) := by rw [HA.out.eq, ins_plug C _ HA.out.dir]; rfl
   rw [this]
   simpa using g2
  ·rcases g3 x hx with h | h
   ·exact .inl h
   ·exact .inr (by omega)
  ·simpa using g4
  ·have := (Kf.of (F := fun i => i = r0.block ∨ i ∈ F) HKW.out).trans g5 (fun i _ h => h)
   simpa using this
 | some ad =>
  obtain ⟨a, l, r, b, pl, pr, Fl, Fr, rfl, rfl, rfl, hb, g1, g2, g3, hl, hr2⟩ := hm.of_some
  have hak := HE.out a l r rfl
  have HAK := hide hak
  have HM := hide hm
  clear hm hb g1 g2 g3 hl hr2 hak
  go_wp2
  have hz := HW.out
  obtain ⟨p1, F1, k1, k2, k3⟩ := HA.out.zp.close HA.out.cell HM.out HA.out.dis
  have hT : ins T (key, val) = plug C (.node a l r) := by
   rw [HA.out.eq, ins_plug C _ HA.out.dir, ins, if_neg (by simp only; have := HAK.out; omega), if_neg (by simp only; have := HAK.out; omega)]
  refine bodyPost_ret (v := .tuple #[]) (by simp [results, Tryz.results132, go_sem]) rfl ⟨p1, F1, rfl, k1, by rw [hT]; exact k2, fun x hx => .inl (HA.out.sub x ((k3 x).1 hx)), (HKW.out.frozen HRL.out).trans HF.out, Kf.of HKW.out⟩
end Go.Proofs.YtcljlnagpjilaaaGreatDoor
