/-
  The spots of a tree that is written (grow.spots, vine.spots, ..), told: what they answer
  grow.place, grow.put, grow.told: what they answer
  grow.cut: what it answers
  shape.part, shape.Of: what they answer
  shape.Of: what it answers
  grow.right: what it answers
  grow.told, grow.Of, grow.Run: what they answer
  Trees of places: plain words, no program
  shape.top, shape.parents, shape.read, shape.Parents: what they answer
  shape.walk: what it appends
-/
import Derived.Test.YtcljlnagpjilaaaGreatDoorG3
import Derived.Test.YtcljlnagpjilaaaGreatDoorG7
import Derived.Maps.OwnOps
import Derived.Maps.Views
import Derived.Test.YtcljlnagpjilaaaGreatDoorG9
import Derived.Test.YtcljlnagpjilaaaGreatDoorG1

set_option linter.unusedVariables false
set_option linter.unusedSimpArgs false
set_option maxRecDepth 100000
set_option maxHeartbeats 8000000
namespace Go.Proofs.YtcljlnagpjilaaaGreatDoor
open Go.ChangeShapes Go.WideShapes Go.ChangeAt Go.RowKit
def MT.spotsBy {α : Type} (key : α -> Int) : MT α -> Int -> List IP
 | .nil, _ => []
 | .node a l r, d => l.spotsBy key (d + 1) ++ [(key a, d)] ++ r.spotsBy key (d + 1)
theorem MT.spotsBy_len {α : Type} (key : α -> Int) : ∀ (t : MT α) (d : Int), (t.spotsBy key d).length = t.size
 | .nil, _ => rfl
 | .node a l r, d => by simp [spotsBy, size, spotsBy_len key l, spotsBy_len key r]; omega
theorem grow_spots_any (g B : Nat) (hg : B <= g) : ∀ (t : MT IP) (p : Option Addr) (F : List Nat) (d : Int) (acc : List IP) (w : World), MR w 241 ePair t p F -> 0 <= d -> d + t.size <= 1000000 -> acc.length + t.size <= 1000000 ->
  OB w B g 72 108 ePair acc -> B <= w.heap.size ->
  Calls Tryz.prog 171 #[.pointer p, .int .i64 d, .pointer (some ⟨g, 0, none⟩)] w (WPost B g 72 108 ePair (.tuple #[]) (acc ++ t.spotsBy Prod.fst d) w)
 | .nil, p, F, d, acc, w, hm, h1, h2, h3, ho, hB => by
  obtain ⟨rfl, rfl⟩ := hm
  have HO := hide ho
  clear ho
  go_enter Tryz.func171, Tryz.ntmps171
  go_wp2
  obtain ⟨u, hb, hu, hn⟩ := HO.out
  exact bodyPost_ret (v := .tuple #[]) (by simp [results, Tryz.results171, go_sem]) rfl ⟨rfl, by simpa [MT.spotsBy] using HO.out, KO.refl (hb.cell 0)⟩
 | .node a l r, p, F, d, acc, w, hm, h1, h2, h3, ho, hB => by
  obtain ⟨b, pl, pr, Fl, Fr, rfl, rfl, hbc, _, _, _, hml, hmr⟩ := hm
  simp only [MT.size] at h2 h3
  have hll := MT.spotsBy_len Prod.fst l (d + 1)
  have HI := hide (fun F acc w hm h3 ho hB => grow_spots_any g B hg l pl F (d + 1) acc w hm (by omega) (by omega) h3 ho hB)
  have HJ := hide (fun F acc w hm h3 ho hB => grow_spots_any g B hg r pr F (d + 1) acc w hm (by omega) (by omega) h3 ho hB)
  have HBC := hide hbc
  have HML := hide hml
  have HMR := hide hmr
  have HO := hide ho
  have HBh := hide hB
  have cL : w.cell? ⟨b, 2, none⟩ = some (.pointer pl) := hbc.cell 2
  have hw : IntKind.i64.wrap (d + 1) = d + 1 := IntWalk.i64_in _ (by omega)
  clear hml hmr ho hbc
  go_enter Tryz.func171, Tryz.ntmps171
  go_wp2_with fail
  with_reducible refine (HI.out _ acc _ HML.out (by omega) HO.out HBh.out).mono ?_
  rintro e w5 ⟨rfl, ho5, hk5⟩
  have HO5 := hide ho5
  have HBC5 := hide (HBC.out.ko HO.out hk5 (by decide) (by decide))
  have HMR5 := hide (HMR.out.ko HO.out hk5 (by decide) (by decide))
  have HB5 : Hid (B <= w5.heap.size) := hide (Nat.le_trans HBh.out hk5.size)
  have HK5 := hide hk5
  clear ho5 hk5 cL
  obtain ⟨u5, hb5, hu5, hn5⟩ := HO5.out
  have d0 : w5.cell? ⟨b, 0, none⟩ = some (.int .i64 (Prod.fst a)) := HBC5.out.cell 0
  have hblk : u5.ownBlock ≠ some b := hu5.bc_ne HBC5.out (by decide)
  obtain ⟨acc5, hacc⟩ : ∃ x, x = acc ++ l.spotsBy Prod.fst (d + 1) := ⟨_, rfl⟩
  have hal : acc5.length = acc.length + l.size := by rw [hacc, List.length_append, hll]
  have HACC := hide hacc
  rw [<- hacc] at hu5
  have HAL := hide hal
  have HM1 : Hid ((acc5.length + [((Prod.fst a, d) : IP)].length) * 16 <= 140737488355328) := hide (by simp; omega)
  have HM2 : Hid (acc5.length + [((Prod.fst a, d) : IP)].length <= maxLen) := hide (by simp [maxLen]; omega)
  clear hacc hal hll
  have KS : Hid (∀ W', KV u5 w5 W' -> (W'.cell? ⟨b, 0, none⟩ = some (.int .i64 (Prod.fst a)) /\ W'.cell? ⟨g, 0, none⟩ = some u5 /\ W'.frozen? ⟨g, 0, none⟩ = false /\ KV u5 w5 W')) := hide fun W' h => ⟨h.cell hblk d0, h.cell hn5 (hb5.cell 0), (h.frozen hb5.lt hn5).trans (hb5.frozen 0), h⟩
  have g0 := hb5.cell 0
  have f0 := hb5.frozen 0
  have L1 : ∀ n o, ((w5.drewN n).alloc o).cell? ⟨g, 0, none⟩ = some u5 := fun n o => ((Kp.refl w5).drewN.alloc).cell g0
  have L2 : ∀ n o', ((w5.drewN n).alloc o').cell? ⟨b, 0, none⟩ = some (.int .i64 (Prod.fst a)) := fun n o' => ((Kp.refl w5).drewN.alloc).cell d0
  have L3 : ∀ o, (w5.drew.alloc o).cell? ⟨g, 0, none⟩ = some u5 := fun o => ((Kp.refl w5).drew.alloc).cell g0
  have L4 : ∀ o', (w5.drew.alloc o').cell? ⟨b, 0, none⟩ = some (.int .i64 (Prod.fst a)) := fun o' => ((Kp.refl w5).drew.alloc).cell d0
  have L5 : ∀ o, ((w5.alloc o).drew).cell? ⟨g, 0, none⟩ = some u5 := fun o => ((Kp.refl w5).alloc.drew).cell g0
  have L6 : ∀ o', ((w5.alloc o').drew).cell? ⟨b, 0, none⟩ = some (.int .i64 (Prod.fst a)) := fun o' => ((Kp.refl w5).alloc.drew).cell d0
  have L7 : ∀ o, (w5.alloc o).cell? ⟨g, 0, none⟩ = some u5 := fun o => ((Kp.refl w5).alloc).cell g0
  have L8 : ∀ o', (w5.alloc o').cell? ⟨b, 0, none⟩ = some (.int .i64 (Prod.fst a)) := fun o' => ((Kp.refl w5).alloc).cell d0
  go_wp2_with fail
  go_region_law (((with_reducible refine step_app (l := acc5) (m := [((Prod.fst a, d) : IP)]) row_spot u5 ?_ (.tmp 19) (.tmp 27) ?_ ?_ ?_ ?_ HM1.out HM2.out (Nat.le_trans HB5.out (KV.size (w := w5) (v := u5) ?_)) ?_); (with_reducible rfl); (with_reducible rfl); rfl; (exact OW.auto); (show RD _ _ (.slice (some ⟨_, 0, none⟩) 1 1) _; (exact RD.auto)); (go_split_ands; (focus ((repeat (first | (with_reducible first | assumption | exact KV.refl _ _ | apply KV.drew | apply KV.drewN | apply KV.alloc) | ((with_reducible apply KV.call); (with_reducible assumption)) | ((with_reducible apply KV.app); (with_reducible assumption)))); done))); intro v3 w3 ho3 hg3 hat3; obtain ⟨_, sc3, sf3, _⟩ := KS.out w3 (by go_split_ands; (focus ((repeat (first | (with_reducible first | assumption | exact KV.refl _ _ | apply KV.drew | apply KV.drewN | apply KV.alloc) | ((with_reducible apply KV.call); (with_reducible assumption)) | ((with_reducible apply KV.app); (with_reducible assumption)))); done))); obtain ⟨A3, N3, c3, rfl⟩ := ho3.rd.slice))
  all_goals
   have hat9 := hat3.imp id (fun e => show Hi w5.heap.size (Value.slice A3 N3 c3) from fun k hk => by rw [e] at hk; injection hk with hk; subst hk; simp <;> omega)
   obtain ⟨ho4, hk4⟩ := ob_app hb5 hu5 hn5 (show KV u5 w5 w3 by (focus ((repeat (first | (with_reducible first | assumption | exact KV.refl _ _ | apply KV.drew | apply KV.drewN | apply KV.alloc) | ((with_reducible apply KV.call); (with_reducible assumption)) | ((with_reducible apply KV.app); (with_reducible assumption)))); done))) ho3 hat9
   clear hat9 hat3 hg3 ho3 sc3 sf3 L1 L2 L3 L4 L5 L6 L7 L8 g0 f0
   have HBC6 := hide (HBC5.out.ko HO5.out hk4 (by decide) (by decide))
   have HMR6 := hide (HMR5.out.ko HO5.out hk4 (by decide) (by decide))
   have HZ6 := hide hk4.size
   have HO6 := hide ho4
   have HK6 := hide (HK5.out.trans hk4)
   have cR := HBC6.out.cell 3
   simp only [nodeC, ePair, List.cons_append, List.nil_append, List.getElem?_cons_succ, List.getElem?_cons_zero] at cR
   clear ho4 hk4
   go_wp2_with fail
   with_reducible refine (HJ.out _ (acc5 ++ [((Prod.fst a, d) : IP)]) _ HMR6.out (by simp only [List.length_append, List.length_cons, List.length_nil]; have := HAL.out; omega) HO6.out (Nat.le_trans HB5.out HZ6.out)).mono ?_
   rintro e w7 ⟨rfl, ho7, hk7⟩
   have HO7 := hide ho7
   have HK7 := hide (HK6.out.trans hk7)
   clear ho7 hk7
   go_wp2
   exact bodyPost_ret (v := .tuple #[]) (by simp [results, Tryz.results171, go_sem]) rfl ⟨rfl, by have h := HO7.out; rw [HACC.out] at h; simpa [MT.spotsBy, List.append_assoc] using h, HK7.out⟩
theorem zip_spots_any (g B : Nat) (hg : B <= g) : ∀ (t : MT IP) (p : Option Addr) (F : List Nat) (d : Int) (acc : List IP) (w : World), MR w 245 ePair t p F -> 0 <= d -> d + t.size <= 1000000 -> acc.length + t.size <= 1000000 ->
  OB w B g 72 108 ePair acc -> B <= w.heap.size ->
  Calls Tryz.prog 176 #[.pointer p, .int .i64 d, .pointer (some ⟨g, 0, none⟩)] w (WPost B g 72 108 ePair (.tuple #[]) (acc ++ t.spotsBy Prod.fst d) w)
 | .nil, p, F, d, acc, w, hm, h1, h2, h3, ho, hB => by
  obtain ⟨rfl, rfl⟩ := hm
  have HO := hide ho
  clear ho
  go_enter Tryz.func176, Tryz.ntmps176
  go_wp2
  obtain ⟨u, hb, hu, hn⟩ := HO.out
  exact bodyPost_ret (v := .tuple #[]) (by simp [results, Tryz.results176, go_sem]) rfl ⟨rfl, by simpa [MT.spotsBy] using HO.out, KO.refl (hb.cell 0)⟩
 | .node a l r, p, F, d, acc, w, hm, h1, h2, h3, ho, hB => by
  obtain ⟨b, pl, pr, Fl, Fr, rfl, rfl, hbc, _, _, _, hml, hmr⟩ := hm
  simp only [MT.size] at h2 h3
  have hll := MT.spotsBy_len Prod.fst l (d + 1)
  have HI := hide (fun F acc w hm h3 ho hB => zip_spots_any g B hg l pl F (d + 1) acc w hm (by omega) (by omega) h3 ho hB)
  have HJ := hide (fun F acc w hm h3 ho hB => zip_spots_any g B hg r pr F (d + 1) acc w hm (by omega) (by omega) h3 ho hB)
  have HBC := hide hbc
  have HML := hide hml
  have HMR := hide hmr
  have HO := hide ho
  have HBh := hide hB
  have cL : w.cell? ⟨b, 2, none⟩ = some (.pointer pl) := hbc.cell 2
  have hw : IntKind.i64.wrap (d + 1) = d + 1 := IntWalk.i64_in _ (by omega)
  clear hml hmr ho hbc
  go_enter Tryz.func176, Tryz.ntmps176
  go_wp2_with fail
  with_reducible refine (HI.out _ acc _ HML.out (by omega) HO.out HBh.out).mono ?_
  rintro e w5 ⟨rfl, ho5, hk5⟩
  have HO5 := hide ho5
  have HBC5 := hide (HBC.out.ko HO.out hk5 (by decide) (by decide))
  have HMR5 := hide (HMR.out.ko HO.out hk5 (by decide) (by decide))
  have HB5 : Hid (B <= w5.heap.size) := hide (Nat.le_trans HBh.out hk5.size)
  have HK5 := hide hk5
  clear ho5 hk5 cL
  obtain ⟨u5, hb5, hu5, hn5⟩ := HO5.out
  have d0 : w5.cell? ⟨b, 0, none⟩ = some (.int .i64 (Prod.fst a)) := HBC5.out.cell 0
  have hblk : u5.ownBlock ≠ some b := hu5.bc_ne HBC5.out (by decide)
  obtain ⟨acc5, hacc⟩ : ∃ x, x = acc ++ l.spotsBy Prod.fst (d + 1) := ⟨_, rfl⟩
  have hal : acc5.length = acc.length + l.size := by rw [hacc, List.length_append, hll]
  have HACC := hide hacc
  rw [<- hacc] at hu5
  have HAL := hide hal
  have HM1 : Hid ((acc5.length + [((Prod.fst a, d) : IP)].length) * 16 <= 140737488355328) := hide (by simp; omega)
  have HM2 : Hid (acc5.length + [((Prod.fst a, d) : IP)].length <= maxLen) := hide (by simp [maxLen]; omega)
  clear hacc hal hll
  have KS : Hid (∀ W', KV u5 w5 W' -> (W'.cell? ⟨b, 0, none⟩ = some (.int .i64 (Prod.fst a)) /\ W'.cell? ⟨g, 0, none⟩ = some u5 /\ W'.frozen? ⟨g, 0, none⟩ = false /\ KV u5 w5 W')) := hide fun W' h => ⟨h.cell hblk d0, h.cell hn5 (hb5.cell 0), (h.frozen hb5.lt hn5).trans (hb5.frozen 0), h⟩
  have g0 := hb5.cell 0
  have f0 := hb5.frozen 0
  have L1 : ∀ n o, ((w5.drewN n).alloc o).cell? ⟨g, 0, none⟩ = some u5 := fun n o => ((Kp.refl w5).drewN.alloc).cell g0
  have L2 : ∀ n o', ((w5.drewN n).alloc o').cell? ⟨b, 0, none⟩ = some (.int .i64 (Prod.fst a)) := fun n o' => ((Kp.refl w5).drewN.alloc).cell d0
  have L3 : ∀ o, (w5.drew.alloc o).cell? ⟨g, 0, none⟩ = some u5 := fun o => ((Kp.refl w5).drew.alloc).cell g0
  have L4 : ∀ o', (w5.drew.alloc o').cell? ⟨b, 0, none⟩ = some (.int .i64 (Prod.fst a)) := fun o' => ((Kp.refl w5).drew.alloc).cell d0
  have L5 : ∀ o, ((w5.alloc o).drew).cell? ⟨g, 0, none⟩ = some u5 := fun o => ((Kp.refl w5).alloc.drew).cell g0
  have L6 : ∀ o', ((w5.alloc o').drew).cell? ⟨b, 0, none⟩ = some (.int .i64 (Prod.fst a)) := fun o' => ((Kp.refl w5).alloc.drew).cell d0
  have L7 : ∀ o, (w5.alloc o).cell? ⟨g, 0, none⟩ = some u5 := fun o => ((Kp.refl w5).alloc).cell g0
  have L8 : ∀ o', (w5.alloc o').cell? ⟨b, 0, none⟩ = some (.int .i64 (Prod.fst a)) := fun o' => ((Kp.refl w5).alloc).cell d0
  go_wp2_with fail
  go_region_law (((with_reducible refine step_app (l := acc5) (m := [((Prod.fst a, d) : IP)]) row_spot u5 ?_ (.tmp 19) (.tmp 26) ?_ ?_ ?_ ?_ HM1.out HM2.out (Nat.le_trans HB5.out (KV.size (w := w5) (v := u5) ?_)) ?_); (with_reducible rfl); (with_reducible rfl); rfl; (exact OW.auto); (show RD _ _ (.slice (some ⟨_, 0, none⟩) 1 1) _; (exact RD.auto)); (go_split_ands; (focus ((repeat (first | (with_reducible first | assumption | exact KV.refl _ _ | apply KV.drew | apply KV.drewN | apply KV.alloc) | ((with_reducible apply KV.call); (with_reducible assumption)) | ((with_reducible apply KV.app); (with_reducible assumption)))); done))); intro v3 w3 ho3 hg3 hat3; obtain ⟨_, sc3, sf3, _⟩ := KS.out w3 (by go_split_ands; (focus ((repeat (first | (with_reducible first | assumption | exact KV.refl _ _ | apply KV.drew | apply KV.drewN | apply KV.alloc) | ((with_reducible apply KV.call); (with_reducible assumption)) | ((with_reducible apply KV.app); (with_reducible assumption)))); done))); obtain ⟨A3, N3, c3, rfl⟩ := ho3.rd.slice))
  all_goals
   have hat9 := hat3.imp id (fun e => show Hi w5.heap.size (Value.slice A3 N3 c3) from fun k hk => by rw [e] at hk; injection hk with hk; subst hk; simp <;> omega)
   obtain ⟨ho4, hk4⟩ := ob_app hb5 hu5 hn5 (show KV u5 w5 w3 by (focus ((repeat (first | (with_reducible first | assumption | exact KV.refl _ _ | apply KV.drew | apply KV.drewN | apply KV.alloc) | ((with_reducible apply KV.call); (with_reducible assumption)) | ((with_reducible apply KV.app); (with_reducible assumption)))); done))) ho3 hat9
   clear hat9 hat3 hg3 ho3 sc3 sf3 L1 L2 L3 L4 L5 L6 L7 L8 g0 f0
   have HBC6 := hide (HBC5.out.ko HO5.out hk4 (by decide) (by decide))
   have HMR6 := hide (HMR5.out.ko HO5.out hk4 (by decide) (by decide))
   have HZ6 := hide hk4.size
   have HO6 := hide ho4
   have HK6 := hide (HK5.out.trans hk4)
   have cR := HBC6.out.cell 3
   simp only [nodeC, ePair, List.cons_append, List.nil_append, List.getElem?_cons_succ, List.getElem?_cons_zero] at cR
   clear ho4 hk4
   go_wp2_with fail
   with_reducible refine (HJ.out _ (acc5 ++ [((Prod.fst a, d) : IP)]) _ HMR6.out (by simp only [List.length_append, List.length_cons, List.length_nil]; have := HAL.out; omega) HO6.out (Nat.le_trans HB5.out HZ6.out)).mono ?_
   rintro e w7 ⟨rfl, ho7, hk7⟩
   have HO7 := hide ho7
   have HK7 := hide (HK6.out.trans hk7)
   clear ho7 hk7
   go_wp2
   exact bodyPost_ret (v := .tuple #[]) (by simp [results, Tryz.results176, go_sem]) rfl ⟨rfl, by have h := HO7.out; rw [HACC.out] at h; simpa [MT.spotsBy, List.append_assoc] using h, HK7.out⟩
theorem MR.uniq {α : Type} {E : Enc α} {nt : TypeId} {w : World} : ∀ {t t' : MT α} {p : Option Addr} {F F' : List Nat}, MR w nt E t p F -> MR w nt E t' p F' -> t.size = t'.size
 | .nil, .nil, _, _, _, _, _ => rfl
 | .nil, .node _ _ _, p, F, F', ⟨h, _⟩, ⟨b, _, _, _, _, h', _⟩ => by rw [h] at h'; cases h'
 | .node _ _ _, .nil, p, F, F', ⟨b, _, _, _, _, h', _⟩, ⟨h, _⟩ => by rw [h] at h'; cases h'
 | .node a l r, .node a' l' r', p, F, F', ⟨b, pl, pr, Fl, Fr, h1, _, h2, _, _, _, hl, hr⟩, ⟨b', pl', pr', Fl', Fr', h1', _, h2', _, _, _, hl', hr'⟩ => by
  rw [h1] at h1'
  injection h1' with h1'
  injection h1' with h1'
  subst h1'
  unfold BC at h2 h2'
  rw [h2] at h2'
  injection h2' with h2'
  injection h2' with h3
  have h4 : nodeC E a pl pr = nodeC E a' pl' pr' := by simpa using congrArg Array.toList h3
  unfold nodeC at h4
  have h5 := (List.append_inj h4 (by rw [E.len, E.len])).2
  simp at h5
  obtain ⟨rfl, rfl⟩ := h5
  simp only [MT.size]
  rw [MR.uniq hl hl', MR.uniq hr hr']
noncomputable def szAt {α : Type} (nt : TypeId) (E : Enc α) (v : Value) (w : World) : Nat := by
 classical
 exact if h : ∃ (q : Addr) (t : MT α) (p : Option Addr) (F : List Nat), v = .pointer (some q) /\ w.cell? q = some (.pointer p) /\ MR w nt E t p F then h.choose_spec.choose.size else 0
theorem szAt_eq {α : Type} {E : Enc α} {nt : TypeId} {w : World} {q : Addr} {t : MT α} {p : Option Addr} {F : List Nat} (hc : w.cell? q = some (.pointer p)) (hm : MR w nt E t p F) : szAt nt E (.pointer (some q)) w = t.size := by
 unfold szAt
 have h : ∃ (q' : Addr) (t : MT α) (p : Option Addr) (F : List Nat), Value.pointer (some q) = .pointer (some q') /\ w.cell? q' = some (.pointer p) /\ MR w nt E t p F := ⟨q, t, p, F, rfl, hc, hm⟩
 rw [dif_pos h]
 obtain ⟨p', F', h1, h2, h3⟩ := h.choose_spec.choose_spec
 generalize h.choose_spec.choose = t' at h3
 generalize h.choose = q' at h1 h2
 injection h1 with h1
 injection h1 with h1
 subst h1
 rw [hc] at h2
 injection h2 with h2
 injection h2 with h2
 subst h2
 exact (MR.uniq hm h3).symm
def Dir {α : Type} (kf : α -> Int) (C : List (Fm α)) (key : Int) : Prop := ∀ f ∈ C, (f.left = true -> key < kf f.a) /\ (f.left = false -> kf f.a < key)
theorem Dir.nil {α : Type} {kf : α -> Int} {key : Int} : Dir kf [] key := fun f hf => by cases hf
theorem Dir.cons {α : Type} {kf : α -> Int} {C : List (Fm α)} {key : Int} {f : Fm α} (h : Dir kf C key) (hf : (f.left = true -> key < kf f.a) /\ (f.left = false -> kf f.a < key)) : Dir kf (f :: C) key := fun x hx => by
 rcases List.mem_cons.1 hx with rfl | hx
 ·exact hf
 ·exact h x hx
structure At_ {α : Type} (w : World) (nt : TypeId) (E : Enc α) (kf : α -> Int) (r0 : Addr) (T : MT α) (F : List Nat) (key : Int) (C : List (Fm α)) (q : Addr) (t : MT α) (p : Option Addr) (Fc Ft : List Nat) : Prop where
 zp : ZP w nt E r0 C q Fc
 cell : w.cell? q = some (.pointer p)
 fz : w.frozen? q = false
 mr : MR w nt E t p Ft
 dis : ∀ x ∈ Ft, x ∉ Fc
 eq : T = plug C t
 dir : Dir kf C key
 sub : ∀ x, x ∈ Ft ∨ x ∈ Fc -> x ∈ F
theorem At_.start {α : Type} {w : World} {nt : TypeId} {E : Enc α} {kf : α -> Int} {r0 : Addr} {T : MT α} {F : List Nat} {p : Option Addr} (key : Int) (hc : w.cell? r0 = some (.pointer p)) (hf : w.frozen? r0 = false) (hm : MR w nt E T p F) :
  At_ w nt E kf r0 T F key [] r0 T p [] F := ⟨ZP.nil, hc, hf, hm, by simp, rfl, Dir.nil, fun x hx => by simpa using hx⟩
theorem At_.down {α : Type} {w : World} {nt : TypeId} {E : Enc α} {kf : α -> Int} {r0 : Addr} {T : MT α} {F : List Nat} {key : Int} {C : List (Fm α)} {q : Addr} {a : α} {l r : MT α} {b : Nat} {pl pr : Option Addr} {Fc Fl Fr : List Nat}
  (h : At_ w nt E kf r0 T F key C q (.node a l r) (some ⟨b, 0, none⟩) Fc (b :: (Fl ++ Fr))) (hb : BC w b nt (nodeC E a pl pr)) (h1 : b ∉ Fl) (h2 : b ∉ Fr) (h3 : ∀ x ∈ Fl, x ∉ Fr) (hl : MR w nt E l pl Fl) (hr : MR w nt E r pr Fr) :
  (key < kf a -> At_ w nt E kf r0 T F key (⟨a, true, r⟩ :: C) ⟨b, E.size, none⟩ l pl (b :: (Fr ++ Fc)) Fl) /\ (kf a < key -> At_ w nt E kf r0 T F key (⟨a, false, l⟩ :: C) ⟨b, E.size + 1, none⟩ r pr (b :: (Fl ++ Fc)) Fr) := by
 have hbc : b ∉ Fc := h.dis b (by simp)
 have hlc : ∀ x ∈ Fl, x ∉ Fc := fun x hx => h.dis x (by simp [hx])
 have hrc : ∀ x ∈ Fr, x ∉ Fc := fun x hx => h.dis x (by simp [hx])
 refine ⟨fun hk => ⟨?_, ?_, hb.frozen _, hl, ?_, by rw [h.eq]; rfl, h.dir.cons ⟨fun _ => hk, fun h => by simp at h⟩, ?_⟩, fun hk => ⟨?_, ?_, hb.frozen _, hr, ?_, by rw [h.eq]; rfl, h.dir.cons ⟨fun h => by simp at h, fun _ => hk⟩, ?_⟩⟩
 ·exact h.zp.push h.cell hb hl hr h1 h2 hbc hlc hrc true
 ·exact hb.link true
 ·intro x hx hx'
  rcases List.mem_cons.1 hx' with rfl | hx'
  ·exact h1 hx
  ·rcases List.mem_append.1 hx' with hx' | hx'
   ·exact h3 x hx hx'
   ·exact hlc x hx hx'
 ·intro x hx
  refine h.sub x ?_
  simp only [List.mem_cons, List.mem_append] at hx ⊢
  rcases hx with hx | hx | hx | hx
  ·exact .inl (.inr (.inl hx))
  ·exact .inl (.inl hx)
  ·exact .inl (.inr (.inr hx))
  ·exact .inr hx
 ·exact h.zp.push h.cell hb hl hr h1 h2 hbc hlc hrc false
 ·exact hb.link false
 ·intro x hx hx'
  rcases List.mem_cons.1 hx' with rfl | hx'
  ·exact h2 hx
  ·rcases List.mem_append.1 hx' with hx' | hx'
   ·exact h3 x hx' hx
   ·exact hrc x hx hx'
 ·intro x hx
  refine h.sub x ?_
  simp only [List.mem_cons, List.mem_append] at hx ⊢
  rcases hx with hx | hx | hx | hx
  ·exact .inl (.inr (.inr hx))
  ·exact .inl (.inl hx)
  ·exact .inl (.inr (.inl hx))
  ·exact .inr hx
def PlRel (w : World) (r0 : Addr) (T : MT IP) (F : List Nat) (key : Int) (nt : TypeId) (qv : Value) (wr : World) : Prop :=
 ∃ C q t p Fc Ft, qv = .pointer (some q) /\ At_ w nt ePair Prod.fst r0 T F key C q t p Fc Ft /\ w = wr
def PlPost (w : World) (r0 : Addr) (T : MT IP) (F : List Nat) (key : Int) (nt : TypeId) (e : Ending) (w' : World) : Prop :=
 ∃ C q t p Fc Ft, e = .returned (.pointer (some q)) /\ At_ w nt ePair Prod.fst r0 T F key C q t p Fc Ft /\ (∀ a l r, t = .node a l r -> a.1 = key) /\ w = w'
theorem place_any (T : MT IP) (r0 : Addr) (p0 : Option Addr) (F : List Nat) (key : Int) (w : World) (hc : w.cell? r0 = some (.pointer p0)) (hf : w.frozen? r0 = false) (hm : MR w 241 ePair T p0 F) :
  Calls Tryz.prog 170 #[.pointer (some r0), .int .i64 key] w (PlPost w r0 T F key 241) := by
 have HS := hide (At_.start (kf := Prod.fst) key hc hf hm)
 clear hc hf hm
 go_enter Tryz.func170, Tryz.ntmps170
 go_wp2
 go_loopw [0] (PlRel w r0 T F key 241) (szAt 241 ePair)
 case atStart => exact ⟨_, _, _, _, _, _, rfl, HS.out, rfl⟩
 case round =>
  obtain ⟨C, q, t, p, Fc, Ft, rfl, ha, rfl⟩ := hrel
  have HA := hide ha
  have c0 := ha.cell
  have hm := ha.mr
  clear ha
  cases p with
  | none =>
   obtain ⟨rfl, rfl⟩ := hm.of_none
   clear hm
   go_wp2
   go_ret
   exact ⟨C, q, _, _, Fc, _, rfl, HA.out, (fun a l r h => by cases h), rfl⟩
  | some ad =>
   obtain ⟨a, l, r, b, pl, pr, Fl, Fr, rfl, rfl, rfl, hb, g1, g2, g3, hl, hr⟩ := hm.of_some
   have ck : w.cell? ⟨b, 0, none⟩ = some (.int .i64 a.1) := hb.cell 0
   have HD := hide (HA.out.down hb g1 g2 g3 hl hr)
   have hms := szAt_eq c0 hm
   have hml : ∀ h : True, szAt 241 ePair (.pointer (some ⟨b, 2, none⟩)) w = l.size := fun _ => szAt_eq (hb.link true) hl
   have hmr : ∀ h : True, szAt 241 ePair (.pointer (some ⟨b, 3, none⟩)) w = r.size := fun _ => szAt_eq (hb.link false) hr
   have HMS := hide hms
   have HML := hide hml
   have HMR := hide hmr
   clear hm hb g1 g2 g3 hl hr hms hml hmr
   rcases Int.lt_trichotomy key a.1 with hk | hk | hk
   ·have d1 : (a.1 != key) = true := by rw [bne_iff_ne]; omega
    have HN := hide (HD.out.1 hk)
    go_wp2
    go_roundw
    case rel => exact ⟨_, _, _, _, _, _, rfl, HN.out, rfl⟩
    case measure => rw [HML.out trivial, HMS.out]; simp only [MT.size]; omega
   ·have d1 : (a.1 != key) = false := by simp [hk]
    have HK := hide hk
    clear hk
    go_wp2
    go_ret
    exact ⟨C, q, _, _, Fc, _, rfl, HA.out, (fun a' l' r' h => by injection h with h; subst h; exact HK.out.symm), rfl⟩
   ·have d1 : (a.1 != key) = true := by rw [bne_iff_ne]; omega
    have d2 : decide (key < a.1) = false := by simp; omega
    have HN := hide (HD.out.2 hk)
    go_wp2
    go_roundw
    case rel => exact ⟨_, _, _, _, _, _, rfl, HN.out, rfl⟩
    case measure => rw [HMR.out trivial, HMS.out]; simp only [MT.size]; omega
def ins : MT IP -> IP -> MT IP
 | .nil, p => .node p .nil .nil
 | .node a l r, p => if p.1 < a.1 then .node a (ins l p) r else if a.1 < p.1 then .node a l (ins r p) else .node a l r
theorem ins_on {f : Fm IP} {p : IP} (h : (f.left = true -> p.1 < f.a.1) /\ (f.left = false -> f.a.1 < p.1)) (t : MT IP) : ins (f.on t) p = f.on (ins t p) := by
 obtain ⟨a, left, o⟩ := f
 cases left with
 | true => simp [Fm.on, ins, h.1 rfl]
 | false =>
  have := h.2 rfl
  simp only at this
  simp [Fm.on, ins, this, show ¬ p.1 < a.1 by omega]
theorem ins_plug {p : IP} : ∀ (C : List (Fm IP)) (t : MT IP), Dir Prod.fst C p.1 -> ins (plug C t) p = plug C (ins t p)
 | [], _, _ => rfl
 | f :: C, t, h => by
  have h1 := ins_plug C (f.on t) (fun x hx => h x (by simp [hx]))
  rw [plug, h1, ins_on (h f (by simp)), plug]
def TPost {α : Type} (nt : TypeId) (E : Enc α) (r0 : Addr) (T' : MT α) (F : List Nat) (w : World) (e : Ending) (w' : World) : Prop :=
 ∃ p F', e = .returned (.tuple #[]) /\ w'.cell? r0 = some (.pointer p) /\ MR w' nt E T' p F' /\ (∀ x ∈ F', x ∈ F ∨ w.heap.size <= x) /\ w'.frozen? r0 = false /\ Kf (fun i => i = r0.block ∨ i ∈ F) w w'
theorem ZP.blk {α : Type} {w : World} {nt : TypeId} {E : Enc α} {r0 q : Addr} {C : List (Fm α)} {F : List Nat} (h : ZP w nt E r0 C q F) {F0 : List Nat} (hs : ∀ x ∈ F, x ∈ F0) : q.block = r0.block ∨ q.block ∈ F0 := by
 rcases h.at_ with rfl | h
 ·exact .inl rfl
 ·exact .inr (hs _ h)
theorem At_.put {α : Type} {w w1 : World} {nt : TypeId} {E : Enc α} {kf : α -> Int} {r0 : Addr} {T : MT α} {F : List Nat} {key : Int} {C : List (Fm α)} {q : Addr} {t : MT α} {p : Option Addr} {Fc Ft : List Nat} (h : At_ w nt E kf r0 T F key C q t p Fc Ft)
  (hr : r0.block ∉ F) (hk : Kp w w1) (hrl : r0.block < w.heap.size) (hfr : w.frozen? r0 = false) {t' : MT α} {p' : Option Addr} {Ft' : List Nat} (hm : MR w1 nt E t' p' Ft') (hd : ∀ x ∈ Ft', x ∉ Fc) (hq : q.block ∉ Ft') (hn : ∀ x ∈ Ft', x ∈ F ∨ w.heap.size <= x) :
  ∃ p0 F0, (w1.setCell q (.pointer p')).cell? r0 = some (.pointer p0) /\ MR (w1.setCell q (.pointer p')) nt E (plug C t') p0 F0 /\ (∀ x ∈ F0, x ∈ F ∨ w.heap.size <= x) /\ (w1.setCell q (.pointer p')).frozen? r0 = false /\ Kf (fun i => i = r0.block ∨ i ∈ F) w (w1.setCell q (.pointer p')) := by
 have hfc : r0.block ∉ Fc := fun hx => hr (h.sub _ (.inr hx))
 have hz1 := (h.zp.kp hk hrl).store hfc p'
 have hqc : (w1.setCell q (.pointer p')).cell? q = some (.pointer p') := World.cell?_setCell_same' w1 q _ (by rw [hk.cell h.cell]; rfl)
 obtain ⟨p0, F0, g1, g2, g3⟩ := hz1.close hqc (hm.set hq) hd
 refine ⟨p0, F0, g1, g2, fun x hx => ?_, ?_, ?_⟩
 ·rcases (g3 x).1 hx with hx | hx
  ·exact hn x hx
  ·exact .inl (h.sub x (.inr hx))
 ·rw [World.frozen?_setCell, hk.frozen hrl]; exact hfr
 ·exact (Kf.of hk).set (.inl (h.zp.blk fun x hx => h.sub x (.inr hx)))
theorem growPut_any (T : MT IP) (r0 : Addr) (p0 : Option Addr) (F : List Nat) (key val : Int) (w : World) (hc : w.cell? r0 = some (.pointer p0)) (hf : w.frozen? r0 = false) (hm : MR w 241 ePair T p0 F) (hr : r0.block ∉ F) :
  Calls Tryz.prog 132 #[.pointer (some r0), .agg #[.int .i64 key, .int .i64 val]] w (TPost 241 ePair r0 (ins T (key, val)) F w) := by
 have hrl := World.block_lt_of_cell? _ _ hc
 have hk1 : Kp w (w.alloc (.cells #[.int .i64 key, .int .i64 val] 141)) := (Kp.refl w).alloc
 have HP := hide (place_any T r0 p0 F key _ (hk1.cell hc) ((hk1.frozen hrl).trans hf) (hm.kp hk1))
 have HF := hide hf
 clear hc hf hm hk1
 go_enter Tryz.func132, Tryz.ntmps132
 go_wp2_with fail
 with_reducible refine HP.out.mono ?_
 rintro e w1 ⟨C, q, t, p, Fc, Ft, rfl, ha, hend, rfl⟩
 have HA := hide ha
 have HE := hide hend
 have c0 := ha.cell
 have f0 := ha.fz
 have hm := ha.mr
 have HW : Hid ((w.alloc (.cells #[.int .i64 key, .int .i64 val] 141)).heap.size = w.heap.size + 1) := hide (by simp)
 have HKW : Hid (Kp w (w.alloc (.cells #[.int .i64 key, .int .i64 val] 141))) := hide (Kp.refl w).alloc
 have HRL := hide hrl
 clear hend ha
 cases p with
 | none =>
  obtain ⟨rfl, rfl⟩ := hm.of_none
  clear hm
  have x0 : (w.alloc (.cells #[.int .i64 key, .int .i64 val] 141)).cell? ⟨w.heap.size, 0, none⟩ = some (.int .i64 key) := by simp [go_sem]
  have x1 : (w.alloc (.cells #[.int .i64 key, .int .i64 val] 141)).cell? ⟨w.heap.size, 1, none⟩ = some (.int .i64 val) := by simp [go_sem]
  have KX := Kp.refl (w.alloc (.cells #[.int .i64 key, .int .i64 val] 141))
  have c1 := (KX.alloc (o := .cells #[.int .i64 key, .int .i64 val, .pointer none, .pointer none] 241)).cell c0
  have f1 : ((w.alloc (.cells #[.int .i64 key, .int .i64 val] 141)).alloc (.cells #[.int .i64 key, .int .i64 val, .pointer none, .pointer none] 241)).frozen? q = false := (KX.alloc.frozen (World.block_lt_of_cell? _ _ c0)).trans f0
  clear KX
  go_wp2
  have hz := HW.out
  have hq : q.block ≠ (w.alloc (.cells #[.int .i64 key, .int .i64 val] 141)).heap.size := by have := World.block_lt_of_cell? _ _ c0; omega
  have hleaf : MR ((w.alloc (.cells #[.int .i64 key, .int .i64 val] 141)).alloc (.cells #[.int .i64 key, .int .i64 val, .pointer none, .pointer none] 241)) 241 ePair (.node (key, val) .nil .nil) (some ⟨(w.alloc (.cells #[.int .i64 key, .int .i64 val] 141)).heap.size, 0, none⟩) [(w.alloc (.cells #[.int .i64 key, .int .i64 val] 141)).heap.size] := MR.leaf (nt := 241) (E := ePair) _ (key, val)
  obtain ⟨p1, F1, g1, g2, g3, g4, g5⟩ := HA.out.put hr (Kp.refl _).alloc (by have := HRL.out; omega) ((HKW.out.frozen HRL.out).trans HF.out) hleaf (fun x hx hx' => by
   simp at hx
   have := HA.out.zp.bc x hx'
   obtain ⟨cs, h⟩ := this
   have := h.lt
   simp at this; omega) (by simp at hq ⊢; exact hq) (fun x hx => by simp at hx; right; omega)
  refine bodyPost_ret (v := .tuple #[]) (by simp [results, Tryz.results132, go_sem]) rfl ⟨p1, F1, rfl, ?_, ?_, fun x hx => ?_, ?_, ?_⟩
  ·simpa using g1
  ·have : ins T (key, val) = plug C (.node (key, val) .nil .nil) := by rw [HA.out.eq, ins_plug C _ HA.out.dir]; rfl
   rw [this]
   simpa using g2
  ·rcases g3 x hx with h | h
   ·exact .inl h
   ·exact .inr (by omega)
  ·simpa using g4
  ·have := (Kf.of (F := fun i => i = r0.block ∨ i ∈ F) HKW.out).trans g5 (fun i _ h => h)
   simpa using this
 | some ad =>
  obtain ⟨a, l, r, b, pl, pr, Fl, Fr, rfl, rfl, rfl, hb, g1, g2, g3, hl, hr2⟩ := hm.of_some
  have hak := HE.out a l r rfl
  have HAK := hide hak
  have HM := hide hm
  clear hm hb g1 g2 g3 hl hr2 hak
  go_wp2
  have hz := HW.out
  obtain ⟨p1, F1, k1, k2, k3⟩ := HA.out.zp.close HA.out.cell HM.out HA.out.dis
  have hT : ins T (key, val) = plug C (.node a l r) := by
   rw [HA.out.eq, ins_plug C _ HA.out.dir, ins, if_neg (by simp only; have := HAK.out; omega), if_neg (by simp only; have := HAK.out; omega)]
  refine bodyPost_ret (v := .tuple #[]) (by simp [results, Tryz.results132, go_sem]) rfl ⟨p1, F1, rfl, k1, by rw [hT]; exact k2, fun x hx => .inl (HA.out.sub x ((k3 x).1 hx)), (HKW.out.frozen HRL.out).trans HF.out, Kf.of HKW.out⟩
def minA : MT IP -> IP
 | .nil => (0, 0)
 | .node a .nil _ => a
 | .node _ (.node b x y) _ => minA (.node b x y)
def delMin : MT IP -> MT IP
 | .nil => .nil
 | .node _ .nil r => r
 | .node a (.node b x y) r => .node a (delMin (.node b x y)) r
def delTop : MT IP -> MT IP -> MT IP
 | .nil, r => r
 | l, .nil => l
 | l, r => .node (minA r) l (delMin r)
theorem delTop_nn (a b : IP) (l r x y : MT IP) : delTop (.node a l r) (.node b x y) = .node (minA (.node b x y)) (.node a l r) (delMin (.node b x y)) := rfl
def del : MT IP -> Int -> MT IP
 | .nil, _ => .nil
 | .node a l r, k => if k < a.1 then .node a (del l k) r else if a.1 < k then .node a l (del r k) else delTop l r
theorem del_on {f : Fm IP} {k : Int} (h : (f.left = true -> k < f.a.1) /\ (f.left = false -> f.a.1 < k)) (t : MT IP) : del (f.on t) k = f.on (del t k) := by
 obtain ⟨a, left, o⟩ := f
 cases left with
 | true => simp [Fm.on, del, h.1 rfl]
 | false =>
  have := h.2 rfl
  simp only at this
  simp [Fm.on, del, this, show ¬ k < a.1 by omega]
theorem del_plug {k : Int} : ∀ (C : List (Fm IP)) (t : MT IP), Dir Prod.fst C k -> del (plug C t) k = plug C (del t k)
 | [], _, _ => rfl
 | f :: C, t, h => by
  have h1 := del_plug C (f.on t) (fun x hx => h x (by simp [hx]))
  rw [plug, h1, del_on (h f (by simp)), plug]
theorem min_plug : ∀ (C : List (Fm IP)) (a : IP) (x y : MT IP), (∀ f ∈ C, f.left = true) -> minA (plug C (.node a x y)) = minA (.node a x y) /\ delMin (plug C (.node a x y)) = plug C (delMin (.node a x y)) /\ ∃ b u v, plug C (.node a x y) = .node b u v
 | [], a, x, y, _ => ⟨rfl, rfl, a, x, y, rfl⟩
 | f :: C, a, x, y, h => by
  have hf := h f (by simp)
  have ho : ∀ t, f.on t = .node f.a t f.o := fun t => by simp [Fm.on, hf]
  obtain ⟨h1, h2, h3⟩ := min_plug C f.a (.node a x y) f.o (fun g hg => h g (by simp [hg]))
  rw [plug, ho]
  refine ⟨by rw [h1, minA], by rw [h2, delMin, plug, ho], h3⟩
theorem At_.putK {α : Type} {w w1 : World} {nt : TypeId} {E : Enc α} {kf : α -> Int} {r0 : Addr} {T : MT α} {F : List Nat} {key : Int} {C : List (Fm α)} {q : Addr} {t : MT α} {p : Option Addr} {Fc Ft : List Nat} (h : At_ w nt E kf r0 T F key C q t p Fc Ft)
  (hr : r0.block ∉ F) (hk : Kf (fun i => i ∈ Ft) w w1) (hrl : r0.block < w.heap.size) (hfr : w.frozen? r0 = false) {t' : MT α} {p' : Option Addr} {Ft' : List Nat} (hm : MR w1 nt E t' p' Ft') (hd : ∀ x ∈ Ft', x ∈ Ft) :
  ∃ p0 F0, (w1.setCell q (.pointer p')).cell? r0 = some (.pointer p0) /\ MR (w1.setCell q (.pointer p')) nt E (plug C t') p0 F0 /\ (∀ x ∈ F0, x ∈ F ∨ w.heap.size <= x) /\ (w1.setCell q (.pointer p')).frozen? r0 = false /\ Kf (fun i => i = r0.block ∨ i ∈ F) w (w1.setCell q (.pointer p')) /\ ∀ x ∈ F0, x ∈ Ft' ∨ x ∈ Fc := by
 have hfc : r0.block ∉ Fc := fun hx => hr (h.sub _ (.inr hx))
 have hrt : r0.block ∉ Ft := fun hx => hr (h.sub _ (.inl hx))
 have hqt : q.block ∉ Ft := by
  rcases h.zp.at_ with e | hx
  ·rw [e]; exact hrt
  ·exact fun h' => h.dis _ h' hx
 have hz1 := (h.zp.kf hk hrt hrl (fun i hi h' => h.dis i h' hi)).store hfc p'
 have hqc : (w1.setCell q (.pointer p')).cell? q = some (.pointer p') := World.cell?_setCell_same' w1 q _ (by rw [hk.cell hqt h.cell]; rfl)
 obtain ⟨p0, F0, g1, g2, g3⟩ := hz1.close hqc (hm.set (fun hx => hqt (hd _ hx))) (fun x hx => h.dis x (hd x hx))
 refine ⟨p0, F0, g1, g2, fun x hx => ?_, ?_, ?_, fun x hx => (g3 x).1 hx⟩
 ·rcases (g3 x).1 hx with hx | hx
  ·exact .inl (h.sub x (.inl (hd x hx)))
  ·exact .inl (h.sub x (.inr hx))
 ·rw [World.frozen?_setCell, hk.frozen hrl hrt]; exact hfr
 ·exact (hk.mono fun i _ hi => .inr (h.sub i (.inl hi))).set (.inl (h.zp.blk fun x hx => h.sub x (.inr hx)))
def CuRel (w : World) (r0 : Addr) (T : MT IP) (F : List Nat) (nt : TypeId) (qv : Value) (wr : World) : Prop :=
 ∃ C q a x y p Fc Ft, qv = .pointer (some q) /\ At_ w nt ePair (fun _ => 0) r0 T F (-1) C q (.node a x y) p Fc Ft /\ (∀ f ∈ C, f.left = true) /\ w = wr
theorem growCut_any (T : MT IP) (r0 : Addr) (p0 : Option Addr) (F : List Nat) (key : Int) (w : World) (hc : w.cell? r0 = some (.pointer p0)) (hf : w.frozen? r0 = false) (hm : MR w 241 ePair T p0 F) (hr : r0.block ∉ F) :
  Calls Tryz.prog 133 #[.pointer (some r0), .int .i64 key] w (TPost 241 ePair r0 (del T key) F w) := by
 have hrl := World.block_lt_of_cell? _ _ hc
 have HP := hide (place_any T r0 p0 F key w hc hf hm)
 have HF := hide hf
 clear hc hf hm
 go_enter Tryz.func133, Tryz.ntmps133
 go_wp2_with fail
 with_reducible refine HP.out.mono ?_
 rintro e w1 ⟨C, q, t, p, Fc, Ft, rfl, ha, hend, rfl⟩
 have HA := hide ha
 have HE := hide hend
 have c0 := ha.cell
 have f0 := ha.fz
 have hm := ha.mr
 have HRL := hide hrl
 clear hend ha
 cases p with
 | none =>
  obtain ⟨rfl, rfl⟩ := hm.of_none
  have HM := hide hm
  clear hm
  go_wp2
  obtain ⟨p1, F1, k1, k2, k3⟩ := HA.out.zp.close HA.out.cell HM.out HA.out.dis
  have hT : del T key = plug C .nil := by rw [HA.out.eq, del_plug C _ HA.out.dir]; rfl
  exact bodyPost_ret (v := .tuple #[]) (by simp [results, Tryz.results133, go_sem]) rfl ⟨p1, F1, rfl, k1, by rw [hT]; exact k2, fun x hx => .inl (HA.out.sub x ((k3 x).1 hx)), HF.out, Kf.refl _ _⟩
 | some ad =>
  obtain ⟨a, l, r, b, pl, pr, Fl, Fr, rfl, rfl, rfl, hb, g1, g2, g3, hl, hr2⟩ := hm.of_some
  have hak := HE.out a l r rfl
  have HT : Hid (del T key = plug C (delTop l r)) := hide (by rw [HA.out.eq, del_plug C _ HA.out.dir, del, if_neg (by omega), if_neg (by omega)])
  have cl : w.cell? ⟨b, 2, none⟩ = some (.pointer pl) := hb.link true
  have cr : w.cell? ⟨b, 3, none⟩ = some (.pointer pr) := hb.link false
  have HB := hide hb
  have HL := hide hl
  have HR2 := hide hr2
  have G1 := hide g1
  have G2 := hide g2
  have G3 := hide g3
  clear hm hb g1 g2 g3 hl hr2 hak
  cases pl with
  | none =>
   obtain ⟨rfl, rfl⟩ := HL.out.of_none
   go_wp2
   obtain ⟨p1, F1, q1, q2, q3, q4, q5, _⟩ := HA.out.putK hr (Kf.refl _ _) HRL.out HF.out HR2.out (fun x hx => by simp [hx])
   exact bodyPost_ret (v := .tuple #[]) (by simp [results, Tryz.results133, go_sem]) rfl ⟨p1, F1, rfl, q1, by rw [HT.out]; exact q2, q3, q4, q5⟩
  | some al =>
   obtain ⟨a2, l2, r2, b2, pl2, pr2, Fl2, Fr2, rfl, rfl, rfl, _⟩ := HL.out.of_some
   cases pr with
   | none =>
    obtain ⟨rfl, rfl⟩ := HR2.out.of_none
    go_wp2
    obtain ⟨p1, F1, q1, q2, q3, q4, q5, _⟩ := HA.out.putK hr (Kf.refl _ _) HRL.out HF.out HL.out (fun x hx => by simp at hx ⊢; rcases hx with h | h | h <;> simp [h])
    exact bodyPost_ret (v := .tuple #[]) (by simp [results, Tryz.results133, go_sem]) rfl ⟨p1, F1, rfl, q1, by rw [HT.out]; exact q2, q3, q4, q5⟩
   | some ar =>
    obtain ⟨a3, l3, r3, b3, pl3, pr3, Fl3, Fr3, rfl, rfl, rfl, _⟩ := HR2.out.of_some
    have HA2 := hide (At_.start (kf := fun _ => 0) (-1) cr (HB.out.frozen 3) HR2.out)
    go_wp2
    go_loopw [6] (CuRel w ⟨b, 3, none⟩ (.node a3 l3 r3) (b3 :: (Fl3 ++ Fr3)) 241) (szAt 241 ePair)
    case atStart => exact ⟨_, _, _, _, _, _, _, _, rfl, HA2.out, (fun f hf => by cases hf), rfl⟩
    case round =>
     obtain ⟨C2, q2, m, x, y, p2, Fc2, Ft2, rfl, ha2, hleft, rfl⟩ := hrel
     obtain ⟨b4, pl4, pr4, Fl4, Fr4, rfl, rfl, hb4, i1, i2, i3, hl4, hr4⟩ := ha2.mr
     have c2 := ha2.cell
     have cl4 : w.cell? ⟨b4, 2, none⟩ = some (.pointer pl4) := hb4.link true
     have cr4 : w.cell? ⟨b4, 3, none⟩ = some (.pointer pr4) := hb4.link false
     have HA3 := hide ha2
     have HLF := hide hleft
     cases pl4 with
     | some ad4 =>
      obtain ⟨a5, l5, r5, b5, pl5, pr5, Fl5, Fr5, rfl, rfl, rfl, _⟩ := hl4.of_some
      have HD := hide ((ha2.down hb4 i1 i2 i3 hl4 hr4).1 (by decide))
      have hms := szAt_eq c2 ha2.mr
      have hml : ∀ h : True, szAt 241 ePair (.pointer (some ⟨b4, 2, none⟩)) w = (MT.node a5 l5 r5).size := fun _ => szAt_eq (hb4.link true) hl4
      have HMS := hide hms
      have HML := hide hml
      clear hms hml ha2 hleft hb4 i1 i2 i3 hl4 hr4
      go_wp2
      go_roundw
      case rel => exact ⟨_, _, _, _, _, _, _, _, rfl, HD.out, (fun f hf => by rcases List.mem_cons.1 hf with rfl | hf; rfl; exact HLF.out f hf), rfl⟩
      case measure => rw [HML.out trivial, HMS.out]; simp only [MT.size]; omega
     | none =>
      obtain ⟨rfl, rfl⟩ := hl4.of_none
      have f2 := ha2.fz
      have hbF : b ∉ b3 :: (Fl3 ++ Fr3) := G2.out
      have hb4F : b4 ∈ b3 :: (Fl3 ++ Fr3) := ha2.sub b4 (.inl (by simp))
      have hb4c : b4 ∉ Fc2 := ha2.dis b4 (by simp)
      have hbb4 : b ≠ b4 := fun e => hbF (by rw [e]; exact hb4F)
      have hq2 : q2 = ⟨b, 3, none⟩ ∨ q2.block ∈ Fc2 := ha2.zp.at_
      have hq2b4 : q2.block ≠ b4 := by
       rcases hq2 with e | h
       ·rw [e]; exact hbb4
       ·intro e; rw [e] at h; exact hb4c h
      have hq2l : q2 ≠ ⟨b, 2, none⟩ := by
       rcases hq2 with e | h
       ·rw [e]; simp
       ·intro e; rw [e] at h; exact hbF (ha2.sub b (.inr h))
      have hq2L : q2.block ∉ b2 :: (Fl2 ++ Fr2) := by
       rcases hq2 with e | h
       ·rw [e]; exact G1.out
       ·intro h'; exact G3.out _ h' (ha2.sub _ (.inr h))
      have hblt : b < w.heap.size := HB.out.lt
      obtain ⟨p5, F5, e1, e2, _, _, e5, e6⟩ := ha2.putK hbF (Kf.refl _ _) hblt (HB.out.frozen 3) hr4 (fun x hx => by simp [hx])
      have hb4F5 : b4 ∉ F5 := fun h => by rcases e6 b4 h with h | h; exact i2 h; exact hb4c h
      obtain ⟨hmin1, hmin2, _⟩ := min_plug C2 m .nil y hleft
      have HREQ : Hid (delTop (.node a2 l2 r2) (.node a3 l3 r3) = .node m (.node a2 l2 r2) (plug C2 y)) := hide (by
       have e := ha2.eq
       rw [delTop_nn, e, hmin1, hmin2]; rfl)
      have w2 : (w.setCell q2 (.pointer pr4)).cell? ⟨b, 2, none⟩ = some (.pointer (some ⟨b2, 0, none⟩)) := by rw [World.cell?_setCell_other _ _ _ _ hq2l]; exact cl
      have w3 : (w.setCell q2 (.pointer pr4)).cell? ⟨b, 3, none⟩ = some (.pointer p5) := e1
      have hbc1 : BC (w.setCell q2 (.pointer pr4)) b4 241 (nodeC ePair m none pr4) := hb4.far (fun e => hq2b4 e.symm)
      have hL1 : MR (w.setCell q2 (.pointer pr4)) 241 ePair (.node a2 l2 r2) (some ⟨b2, 0, none⟩) (b2 :: (Fl2 ++ Fr2)) := HL.out.set hq2L
      have hk1 : Kf (fun i => i ∈ b :: (b2 :: (Fl2 ++ Fr2) ++ b3 :: (Fl3 ++ Fr3))) w (w.setCell q2 (.pointer pr4)) := e5.mono fun i _ hi => by
       rcases hi with h | h
       ·rw [h]; simp
       ·simp only [List.mem_cons, List.mem_append] at h ⊢; exact .inr (.inr h)
      have hqb4 : q.block ≠ b4 := by
       rcases HA.out.zp.at_ with e | h
       ·rw [e]; intro e'; exact hr (HA.out.sub _ (.inl (by rw [e']; simp only [List.mem_cons, List.mem_append] at hb4F ⊢; exact .inr (.inr hb4F))))
       ·intro e'; exact HA.out.dis b4 (by simp only [List.mem_cons, List.mem_append] at hb4F ⊢; exact .inr (.inr hb4F)) (by rw [<- e']; exact h)
      have hqq2 : q ≠ q2 := by
       intro e'
       have hin : q2.block ∈ b :: (b2 :: (Fl2 ++ Fr2) ++ b3 :: (Fl3 ++ Fr3)) := by
        rcases hq2 with e | h
        ·rw [e]; simp
        ·have := ha2.sub _ (.inr h); simp only [List.mem_cons, List.mem_append] at this ⊢; exact .inr (.inr this)
       rcases HA.out.zp.at_ with e | h
       ·exact hr (HA.out.sub _ (.inl (by rw [<- e, e']; exact hin)))
       ·exact HA.out.dis _ hin (by rw [<- e']; exact h)
      have w4 : (w.setCell q2 (.pointer pr4)).cell? q = some (.pointer (some ⟨b, 0, none⟩)) := by rw [World.cell?_setCell_other _ _ _ _ (fun e => hqq2 e.symm)]; exact c0
      have w5 : (w.setCell q2 (.pointer pr4)).frozen? q = false := by rw [World.frozen?_setCell]; exact f0
      obtain ⟨W1, hW1⟩ : ∃ W, W = w.setCell q2 (.pointer pr4) := ⟨_, rfl⟩
      rw [<- hW1] at w2 w3 w4 w5 hbc1 hL1 hk1 e2
      have v2 : W1.cell? ⟨b4, 2, none⟩ = some (.pointer none) := hbc1.cell 2
      have v3 : W1.cell? ⟨b4, 3, none⟩ = some (.pointer pr4) := hbc1.cell 3
      have v4 := hbc1.frozen 2
      have v5 := hbc1.frozen 3
      have n1 : ¬ b = b4 := hbb4
      have n2 : ¬ b4 = b := fun e => hbb4 e.symm
      have HBC1 := hide hbc1
      have HL1 := hide hL1
      have HK1 := hide hk1
      have HE2 := hide e2
      have HB4F5 := hide hb4F5
      have HB4L : Hid (b4 ∉ b2 :: (Fl2 ++ Fr2)) := hide (fun h => G3.out _ h hb4F)
      have HLF5 : Hid (∀ x ∈ b2 :: (Fl2 ++ Fr2), x ∉ F5) := hide (fun x hx h => by
       rcases e6 x h with h | h
       ·exact G3.out x hx (ha2.sub x (.inl (by simp [h])))
       ·exact G3.out x hx (ha2.sub x (.inr h)))
      have HSUB : Hid (∀ x ∈ b4 :: (b2 :: (Fl2 ++ Fr2) ++ F5), x ∈ b :: (b2 :: (Fl2 ++ Fr2) ++ b3 :: (Fl3 ++ Fr3))) := hide (fun x hx => by
       simp only [List.mem_cons, List.mem_append] at hx hb4F ⊢
       rcases hx with rfl | hx | hx
       ·exact .inr (.inr hb4F)
       ·exact .inr (.inl hx)
       ·rcases e6 x hx with h | h
        ·have := ha2.sub x (.inl (by simp [h])); simp only [List.mem_cons, List.mem_append] at this; exact .inr (.inr this)
        ·have := ha2.sub x (.inr h); simp only [List.mem_cons, List.mem_append] at this; exact .inr (.inr this))
      have HW1 := hide hW1
      have HQ4 := hide hqb4
      have hq4s : ∀ (j : Nat) (u : Value) (X : World), (X.setCell ⟨b4, j, none⟩ u).cell? q = X.cell? q := fun j u X => World.cell?_setCell_other _ _ _ _ (fun e => hqb4 (by rw [<- e]))
      have HCW := hide hW1
      clear ha2 hleft hb4 i1 i2 i3 hl4 hr4 hbF hb4F hb4c hbb4 hq2 hq2b4 hq2l hq2L hblt e1 e5 e6 hb4F5 hmin1 hmin2 hqq2 hbc1 hL1 hk1 e2 cl cr hW1
      go_wp2_with fail
      rw [<- HW1.out]
      clear c0 f0 f2 c2 cl4 cr4
      go_region_held3 (fun w' => w'.cell? ⟨b, 2, none⟩ = some (.pointer (some ⟨b2, 0, none⟩)) /\ w'.cell? ⟨b, 3, none⟩ = some (.pointer p5))
       (first | go_keep | fail)
       (fail)
      all_goals
       go_wp2
       have hb4in := HSUB.out b4 (by simp)
       have hbcX : BC ((W1.setCell ⟨b4, 2, none⟩ (.pointer (some ⟨b2, 0, none⟩))).setCell ⟨b4, 3, none⟩ (.pointer p5)) b4 241 (nodeC ePair m (some ⟨b2, 0, none⟩) p5) := (HBC1.out.set (j := 2)).set (j := 3)
       have hm := MR.mk hbcX HB4L.out HB4F5.out HLF5.out ((HL1.out.set (q := ⟨b4, 2, none⟩) HB4L.out).set (q := ⟨b4, 3, none⟩) HB4L.out) ((HE2.out.set (q := ⟨b4, 2, none⟩) HB4F5.out).set (q := ⟨b4, 3, none⟩) HB4F5.out)
       have hkX := (HK1.out.set (p := ⟨b4, 2, none⟩) (u := .pointer (some ⟨b2, 0, none⟩)) (.inl hb4in)).set (p := ⟨b4, 3, none⟩) (u := .pointer p5) (.inl hb4in)
       obtain ⟨p1, F1, q1, q2', q3, q4, q5, _⟩ := HA.out.putK hr hkX HRL.out HF.out hm HSUB.out
       refine bodyPost_ret (v := .tuple #[]) (by simp [results, Tryz.results133, go_sem]) rfl ⟨p1, F1, rfl, q1, by rw [HT.out, HREQ.out]; exact q2'.kp (Kp.refl _).drew, q3, q4, Kf.on q5 (Kp.refl _).drew⟩
def keysIn (l : List Int) : Prop := ∀ k ∈ l, 0 <= k /\ k <= 1000000
instance (l : List Int) : Decidable (keysIn l) := by unfold keysIn; infer_instance
theorem KO.none {g B : Nat} {w w' a : World} (h : KO g B w w') (hk : Kp a w) (hg : a.heap.size <= g) (hv : w.cell? ⟨g, 0, none⟩ = some (.slice none 0 0)) : Kp a w' :=
 h.kp hk hg fun v h1 => by
  rw [hv] at h1
  injection h1 with h1
  subst h1
  intro k hk
  simp [Value.ownBlock] at hk
theorem growTold_any (t : MT IP) (p : Option Addr) (F : List Nat) (w : World) (hm : MR w 241 ePair t p F) (hs : t.size <= 1000) : Calls Tryz.prog 134 #[.pointer p] w (RetRD ePair (t.spotsBy Prod.fst 0) w) := by
 have HO := hide (OB.new (B := w.heap.size) (st := 72) (e := 108) (E := ePair) w (Nat.le_refl _))
 have HC := hide (grow_spots_any w.heap.size w.heap.size (Nat.le_refl _) t p F 0 [] _ (hm.kp (Kp.refl w).alloc) (by omega) (by omega) (by simp; omega) HO.out (by simp))
 clear hm
 go_enter Tryz.func134, Tryz.ntmps134
 go_wp2_with fail
 with_reducible refine HC.out.mono ?_
 rintro e w1 ⟨rfl, ho1, hk1⟩
 have k1 := hk1.none (Kp.refl w).alloc (Nat.le_refl _) (by simp [go_sem])
 rw [List.nil_append] at ho1
 obtain ⟨u, hb, hu, hn⟩ := ho1
 have g0 := hb.cell 0
 obtain ⟨A3, N3, c3, rfl⟩ := hu.rd.slice
 have HU := hide hu.rd
 have K1 := hide k1
 clear hk1 hb hu hn k1
 go_wp2
 go_ret
 exact ⟨_, rfl, HU.out, K1.out.bel⟩
def TB {α : Type} (w : World) (nt : TypeId) (E : Enc α) (r0 : Addr) (base : Nat) (T : MT α) : Prop := ∃ p F, w.cell? r0 = some (.pointer p) /\ w.frozen? r0 = false /\ MR w nt E T p F /\ r0.block ∉ F /\ ∀ x ∈ F, base <= x
theorem TB.kp {α : Type} {w w' : World} {nt : TypeId} {E : Enc α} {r0 : Addr} {base : Nat} {T : MT α} (h : TB w nt E r0 base T) (hk : Kp w w') : TB w' nt E r0 base T := by
 obtain ⟨p, F, h1, h2, h3, h4, h5⟩ := h
 exact ⟨p, F, hk.cell h1, (hk.frozen (World.block_lt_of_cell? _ _ h1)).trans h2, h3.kp hk, h4, h5⟩
theorem TPost.tb {α : Type} {nt : TypeId} {E : Enc α} {r0 : Addr} {T T' : MT α} {F : List Nat} {w w0 w' : World} {e : Ending} {p : Option Addr} (h : TPost nt E r0 T' F w e w') (hc : w.cell? r0 = some (.pointer p)) (hr : r0.block ∉ F) (hF : ∀ x ∈ F, w0.heap.size <= x) (hk : Kp w0 w) (hr0 : w0.heap.size <= r0.block) :
  e = .returned (.tuple #[]) /\ TB w' nt E r0 w0.heap.size T' /\ Kp w0 w' /\ Kf (fun i => i = r0.block ∨ i ∈ F) w w' := by
 obtain ⟨p', F', rfl, h1, h2, h3, h4, h5⟩ := h
 have hrl := World.block_lt_of_cell? _ _ hc
 have hz := hk.size
 refine ⟨rfl, ⟨p', F', h1, h4, h2, fun hx => ?_, fun x hx => ?_⟩, h5.kp hk fun i hi => ?_, h5⟩
 ·rcases h3 _ hx with h | h
  ·exact hr h
  ·omega
 ·rcases h3 x hx with h | h
  ·exact hF x h
  ·omega
 ·rcases hi with rfl | hi
  ·exact hr0
  ·exact hF i hi
theorem ins_size : ∀ (T : MT IP) (p : IP), (ins T p).size <= T.size + 1
 | .nil, _ => by simp [ins, MT.size]
 | .node a l r, p => by
  have h1 := ins_size l p
  have h2 := ins_size r p
  unfold ins
  split
  ·simp only [MT.size]; omega
  ·split
   ·simp only [MT.size]; omega
   ·omega
theorem delMin_size : ∀ (T : MT IP), (delMin T).size <= T.size
 | .nil => by simp [delMin]
 | .node _ .nil r => by simp only [delMin, MT.size]; omega
 | .node a (.node b x y) r => by
  have := delMin_size (.node b x y)
  simp only [delMin, MT.size] at this ⊢; omega
theorem delTop_size (l r : MT IP) : (delTop l r).size <= l.size + 1 + r.size := by
 cases l with
 | nil => simp only [delTop, MT.size]; omega
 | node a x y =>
  cases r with
  | nil => simp only [delTop, MT.size]; omega
  | node b u v =>
   have := delMin_size (.node b u v)
   simp only [delTop_nn, MT.size] at this ⊢; omega
theorem del_size : ∀ (T : MT IP) (k : Int), (del T k).size <= T.size
 | .nil, _ => by simp [del]
 | .node a l r, k => by
  have h1 := del_size l k
  have h2 := del_size r k
  have h3 := delTop_size l r
  unfold del
  split
  ·simp only [MT.size]; omega
  ·split
   ·simp only [MT.size]; omega
   ·simp only [MT.size]; omega
def growS (T : MT IP) (o : O3) (a : An) : MT IP := if a.err ≠ 0 then T else if o.1 = 1 then ins T (o.2.1, o.2.2) else if o.1 = 3 then del T o.2.1 else T
def growT (z : List (O3 × An)) : MT IP := z.foldl (fun T p => growS T p.1 p.2) .nil
theorem growT_snoc (z : List (O3 × An)) (k : Nat) (h : k < z.length) : growT (z.take (k + 1)) = growS (growT (z.take k)) z[k].1 z[k].2 := by
 rw [List.take_succ_eq_append_getElem h, growT, List.foldl_append]; rfl
theorem growS_size (T : MT IP) (o : O3) (a : An) : (growS T o a).size <= T.size + 1 := by
 unfold growS
 split
 ·omega
 ·split
  ·exact ins_size _ _
  ·split
   ·have := del_size T o.2.1; omega
   ·omega
theorem growT_size (z : List (O3 × An)) (k : Nat) (h : k <= z.length) : (growT (z.take k)).size <= k := by
 induction k with
 | zero => simp [growT, MT.size]
 | succ k ih => rw [growT_snoc z k (by omega)]; have := growS_size (growT (z.take k)) z[k].1 z[k].2; have := ih (by omega); omega
def opsZ (ops : List O3) : List (O3 × An) := ops.zip (runL ops).2
def growRun (ops : List O3) : List IP × List An × Int := if ops.length > 300 then ([], [], 2) else ((growT (opsZ ops)).spotsBy Prod.fst 0, (runL ops).2, 0)
def GuRel (z : List (O3 × An)) (w0 : World) (r0 : Addr) (iv : Value) (wr : World) : Prop := ∃ k : Nat, k <= z.length /\ iv = .int .i64 k /\ TB wr 241 ePair r0 w0.heap.size (growT (z.take k)) /\ Kp w0 wr
theorem growRun_any (ops : List O3) (v : Value) (w : World) (hr : RD w eOp v ops) : Calls Tryz.prog 81 #[v] w (RunPost (growRun ops) w) := by
 obtain ⟨A, c, rfl, hc, hm⟩ := hr.shape
 have HR := hide hr
 have HRU := hide (fun W v h => run_any ops v W h)
 clear hr
 by_cases hlen : ops.length > 300
 ·have h1 : runOf ops = ([], [], 2) := by rw [runOf, if_pos hlen]
  have H1 : Hid (growRun ops = ([], [], 2)) := hide (by rw [growRun, if_pos hlen])
  rw [h1] at HRU
  clear h1
  go_enter Tryz.func81, Tryz.ntmps81
  go_wp2_with fail
  with_reducible refine (HRU.out _ _ HR.out).mono ?_
  rintro e w1 ⟨v1, u1, rfl, hr1, hu1, hb1⟩
  obtain ⟨A1, c1, rfl, _, _⟩ := hr1.shape
  obtain ⟨A2, c2, rfl, _, _⟩ := hu1.shape
  clear hr1 hu1
  go_wp2
  go_ret3
  exact ⟨_, _, by rw [H1.out]; rfl, by rw [H1.out]; exact RD.nil, by rw [H1.out]; exact RD.nil, hb1⟩
 ·have h1 : runOf ops = ((runL ops).1, (runL ops).2, 0) := by rw [runOf, if_neg hlen]
  have H1 : Hid (growRun ops = ((growT (opsZ ops)).spotsBy Prod.fst 0, (runL ops).2, 0)) := hide (by rw [growRun, if_neg hlen])
  have hal := runL_len ops ops.length (Nat.le_refl _)
  rw [List.take_length] at hal
  have hzl : (opsZ ops).length = ops.length := by rw [opsZ, List.length_zip, hal]; omega
  have hzk : ∀ k (h : k < (opsZ ops).length) (h1 : k < ops.length) (h2 : k < (runL ops).2.length), (opsZ ops)[k] = (ops[k], (runL ops).2[k]) := fun k h h1 h2 => by simp [opsZ]
  obtain ⟨z, hz⟩ : ∃ z, z = opsZ ops := ⟨_, rfl⟩
  rw [<- hz] at H1 hzl
  have HZK : Hid (∀ k (h : k < z.length) (h1 : k < ops.length) (h2 : k < (runL ops).2.length), z[k] = (ops[k], (runL ops).2[k])) := hide (by rw [hz]; exact hzk)
  rw [h1] at HRU
  obtain ⟨an, han⟩ : ∃ a, a = (runL ops).2 := ⟨_, rfl⟩
  rw [<- han] at HRU H1 HZK hal
  have HZL := hide hzl
  have HAL := hide hal
  clear h1 hz hzk hzl hal han
  go_enter Tryz.func81, Tryz.ntmps81
  go_wp2_with fail
  with_reducible refine (HRU.out _ _ HR.out).mono ?_
  rintro e w1 ⟨v1, u1, rfl, hr1, hu1, hb1⟩
  obtain ⟨A1, c1, rfl, _, _⟩ := hr1.shape
  obtain ⟨A2, c2, rfl, hc2, hm2⟩ := hu1.shape
  have k1 : Kp w w1 := hb1
  have HK1 := hide k1
  have hz1 := k1.size
  have HU := hide hu1
  have hcc : an.length <= 9223372036854775807 := by have h := hc2; simp only at h; omega
  clear hr1 hu1 hb1 k1
  go_wp2
  go_loopw [22] (GuRel z w1 ⟨w1.heap.size, 0, none⟩) (fun i _ => z.length - (intOf i).toNat)
  case atStart => exact ⟨0, by omega, rfl, ⟨none, [], by simp [go_sem], by simp [go_sem], MR.nil, by simp, by simp⟩, (Kp.refl w1).alloc⟩
  case round =>
   obtain ⟨k, hk, rfl, htb, hkp⟩ := hrel
   have hsz := growT_size z k hk
   by_cases hlt : k < z.length
   ·have hko : k < ops.length := by rw [<- HZL.out]; exact hlt
    have hka : k < an.length := by rw [HAL.out]; exact hko
    have dk : decide (k < ops.length) = true := by simp [hko]
    have bka : (k : Int) < (an.length : Int) := by omega
    have hkw := HK1.out.trans hkp
    obtain ⟨b, o, rfl, _, x0, x1, x2⟩ := (HR.out.kp hkw).op hko
    obtain ⟨b2, o2, rfl, _, y0, _, _, _⟩ := (HU.out.kp hkp).ans hka
    have y0' := ((Kp.refl wr).alloc (o := .cells #[.int .i64 ops[k].1, .int .i64 ops[k].2.1, .int .i64 ops[k].2.2] 82)).cell y0
    have hst := growT_snoc z k hlt
    rw [HZK.out k hlt hko hka] at hst
    simp only at hst
    have HTB := hide htb
    by_cases he : an[k].err = 0
    ·have d1 : (an[k].err != 0) = false := by simp [he]
     rw [growS, if_neg (by simpa using he)] at hst
     by_cases h1 : ops[k].1 = 1
     ·rw [if_pos h1] at hst
      have d2 : (ops[k].1 == 1) = true := by simp [h1]
      have HS := hide hst
      obtain ⟨p, F, q1, q2, q3, q4, q5⟩ := (htb.kp ((Kp.refl wr).alloc (o := .cells #[.int .i64 ops[k].1, .int .i64 ops[k].2.1, .int .i64 ops[k].2.2] 82)))
      have HP := hide (growPut_any (growT (z.take k)) ⟨w1.heap.size, 0, none⟩ p F ops[k].2.1 ops[k].2.2 _ q1 q2 q3 q4)
      have HQ1 := hide q1
      have HKP := hide hkp
      clear q2 q3 q1 hkp htb hst he h1
      go_wp2_with fail
      with_reducible refine HP.out.mono ?_
      intro e w2 hpost
      obtain ⟨rfl, htb2, hk2, _⟩ := hpost.tb (T := growT (z.take k)) HQ1.out q4 q5 HKP.out.alloc (Nat.le_refl _)
      rw [<- HS.out] at htb2
      have HT2 := hide htb2
      have HK2 := hide hk2
      clear hpost htb2 hk2
      go_wp2
      go_roundw
      case rel => exact ⟨k + 1, by omega, by go_num, HT2.out, HK2.out⟩
      case measure => simp [intOf]; omega
     ·rw [if_neg h1] at hst
      have d2 : (ops[k].1 == 1) = false := by simp [h1]
      by_cases h3 : ops[k].1 = 3
      ·rw [if_pos h3] at hst
       have d3 : (ops[k].1 == 3) = true := by simp [h3]
       have HS := hide hst
       obtain ⟨p, F, q1, q2, q3, q4, q5⟩ := (htb.kp ((Kp.refl wr).alloc (o := .cells #[.int .i64 ops[k].1, .int .i64 ops[k].2.1, .int .i64 ops[k].2.2] 82)))
       have HP := hide (growCut_any (growT (z.take k)) ⟨w1.heap.size, 0, none⟩ p F ops[k].2.1 _ q1 q2 q3 q4)
       have HQ1 := hide q1
       have HKP := hide hkp
       clear q2 q3 q1 hkp htb hst he h1 h3
       go_wp2_with fail
       with_reducible refine HP.out.mono ?_
       intro e w2 hpost
       obtain ⟨rfl, htb2, hk2, _⟩ := hpost.tb (T := growT (z.take k)) HQ1.out q4 q5 HKP.out.alloc (Nat.le_refl _)
       rw [<- HS.out] at htb2
       have HT2 := hide htb2
       have HK2 := hide hk2
       clear hpost htb2 hk2
       go_wp2
       go_roundw
       case rel => exact ⟨k + 1, by omega, by go_num, HT2.out, HK2.out⟩
       case measure => simp [intOf]; omega
      ·rw [if_neg h3] at hst
       have d3 : (ops[k].1 == 3) = false := by simp [h3]
       have HS := hide hst
       clear hst he h1 h3
       go_wp2
       go_roundw
       case rel => exact ⟨k + 1, by omega, by go_num, by rw [HS.out]; exact HTB.out.kp (Kp.refl wr).alloc, hkp.alloc⟩
       case measure => simp [intOf]; omega
    ·have d1 : (an[k].err != 0) = true := by simp [he]
     rw [growS, if_pos (by simpa using he)] at hst
     have HS := hide hst
     clear hst he
     go_wp2
     go_roundw
     case rel => exact ⟨k + 1, by omega, by go_num, by rw [HS.out]; exact HTB.out.kp (Kp.refl wr).alloc, hkp.alloc⟩
     case measure => simp [intOf]; omega
   ·have hkl : k = z.length := by omega
    have dk : decide (k < ops.length) = false := by have := HZL.out; simp; omega
    have hS : Hid (z.take k = z) := hide (List.take_of_length_le (by omega))
    obtain ⟨p, F, q1, q2, q3, q4, q5⟩ := htb
    have hzz := HZL.out
    have HT := hide (growTold_any (growT (z.take k)) p F wr q3 (by omega))
    have HKP := hide hkp
    have HKW := hide (HK1.out.trans hkp)
    clear q2 q3 hkp hzz hkl
    go_wp2_with fail
    with_reducible refine HT.out.mono ?_
    rintro e w2 ⟨v2, rfl, hr2, hb2⟩
    have HR2 := hide hr2
    have HB2 := hide (Kp.of hb2)
    clear hr2 hb2
    go_wp2
    go_ret3
    exact ⟨_, _, by rw [H1.out]; rfl, by rw [H1.out]; have h := HR2.out; rwa [hS.out] at h, by rw [H1.out]; exact HU.out.kp (HKP.out.trans HB2.out), (HKW.out.trans HB2.out).bel⟩
inductive PT where
 | nil
 | node (p : Nat) (l r : PT)
def PT.size : PT -> Nat
 | .nil => 0
 | .node _ l r => l.size + 1 + r.size
def PT.At : PT -> Nat -> Prop
 | .nil, _ => True
 | .node p l r, off => p = off + l.size /\ l.At off /\ r.At (p + 1)
def PT.pars : PT -> Int -> List Int
 | .nil, _ => []
 | .node p l r, up => l.pars p ++ [up] ++ r.pars p
def PT.deps : PT -> Int -> List Int
 | .nil, _ => []
 | .node p l r, d => l.deps (d + 1) ++ [d] ++ r.deps (d + 1)
theorem PT.pars_len : ∀ (t : PT) (up : Int), (t.pars up).length = t.size
 | .nil, _ => rfl
 | .node p l r, up => by simp [pars, size, pars_len l, pars_len r]; omega
theorem PT.deps_len : ∀ (t : PT) (d : Int), (t.deps d).length = t.size
 | .nil, _ => rfl
 | .node p l r, d => by simp [deps, size, deps_len l, deps_len r]; omega
def topF (l : List IP) : Nat -> Nat -> Nat -> Bool -> Nat × Bool
 | 0, _, a, al => (a, al)
 | n + 1, k, a, al => if gv l k < gv l a then topF l n (k + 1) k true else if gv l k = gv l a then topF l n (k + 1) a false else topF l n (k + 1) a al
def topS (l : List IP) (lo hi : Nat) : Nat × Bool := topF l (hi - (lo + 1)) (lo + 1) lo true
theorem topF_in (l : List IP) (lo hi : Nat) : ∀ n k a al, lo <= a -> a < hi -> k + n <= hi -> lo <= k -> lo <= (topF l n k a al).1 /\ (topF l n k a al).1 < hi
 | 0, k, a, al, h1, h2, _, _ => ⟨h1, h2⟩
 | n + 1, k, a, al, h1, h2, h3, h4 => by
  unfold topF
  split
  ·exact topF_in l lo hi n (k + 1) k true h4 (by omega) (by omega) (by omega)
  ·split
   ·exact topF_in l lo hi n (k + 1) a false h1 h2 (by omega) (by omega)
   ·exact topF_in l lo hi n (k + 1) a al h1 h2 (by omega) (by omega)
theorem topS_in (l : List IP) (lo hi : Nat) (h : lo < hi) : lo <= (topS l lo hi).1 /\ (topS l lo hi).1 < hi := topF_in l lo hi _ _ _ _ (Nat.le_refl _) h (by omega) (by omega)
def TopRel (l : List IP) (lo hi : Nat) (w : World) (av alv iv : Value) (wr : World) : Prop :=
 ∃ (k a : Nat) (al : Bool), k <= hi /\ a < hi /\ iv = .int .i64 k /\ av = .int .i64 a /\ alv = .bool al /\ topF l (hi - k) k a al = topS l lo hi /\ ∃ n, wr = w.drewN n
theorem top_any (l : List IP) (v : Value) (lo hi : Nat) (w : World) (hr : RD w ePair v l) (h1 : lo < hi) (h2 : hi <= l.length) :
  Calls Tryz.prog 128 #[v, .int .i64 (lo : Int), .int .i64 (hi : Int)] w (Drew (.tuple #[.int .i64 ((topS l lo hi).1 : Nat), .bool (topS l lo hi).2]) w) := by
 obtain ⟨A, c, rfl, hc, hm⟩ := hr.shape
 have HR := hide hr
 clear hr
 have b1 : (lo : Int) + 1 <= (hi : Int) := by omega
 have b2 : (hi : Int) <= 9223372036854775807 := by omega
 go_enter Tryz.func128, Tryz.ntmps128
 go_wp2
 go_loopw [8, 9, 10] (TopRel l lo hi w) (fun _ _ i _ => hi - (intOf i).toNat)
 case atStart => exact ⟨lo + 1, lo, true, by omega, by omega, by go_num, rfl, rfl, rfl, 0, rfl⟩
 case round =>
  obtain ⟨k, a, al, hk, ha, rfl, rfl, rfl, htop, n, rfl⟩ := hrel
  have HT := hide htop
  clear htop
  by_cases hlt : k < hi
  ·obtain ⟨b, o, rfl, hb, c0, c1⟩ := (HR.out).pair (k := k) (by omega)
   obtain ⟨b', o', e1, _, d0, d1⟩ := (HR.out).pair (k := a) (by omega)
   injection e1 with e1
   injection e1 with e2 e3
   subst e2 e3
   have hst : Hid (topF l (hi - k) k a al = if gv l k < gv l a then topF l (hi - (k + 1)) (k + 1) k true else if gv l k = gv l a then topF l (hi - (k + 1)) (k + 1) a false else topF l (hi - (k + 1)) (k + 1) a al) :=
    hide (by rw [show hi - k = (hi - (k + 1)) + 1 from by omega, topF])
   have hg1 := gv_eq l k (by omega)
   have hg2 := gv_eq l a (by omega)
   have b3 : (k : Int) < (l.length : Int) := by omega
   have b4 : (a : Int) < (l.length : Int) := by omega
   have b5 : (0 : Int) <= (k : Int) := by omega
   have b6 : (0 : Int) <= (a : Int) := by omega
   rcases Int.lt_trichotomy l[k].2 l[a].2 with hd | hd | hd
   ·have hn : Hid (topF l (hi - (k + 1)) (k + 1) k true = topS l lo hi) := hide (by rw [<- HT.out, hst.out, if_pos (by rw [hg1, hg2]; exact hd)])
    clear hg1 hg2
    go_wp2_with fail
    go_quiet (fail)
    go_wp2
    go_roundw
    case rel => exact ⟨k + 1, k, true, by omega, by omega, by go_num, rfl, rfl, hn.out, _, rfl⟩
    case measure => simp [intOf]; omega
   ·have hn : Hid (topF l (hi - (k + 1)) (k + 1) a false = topS l lo hi) := hide (by rw [<- HT.out, hst.out, if_neg (by rw [hg1, hg2]; omega), if_pos (by rw [hg1, hg2]; exact hd)])
    have hq1 : decide (l[k].2 < l[a].2) = false := by simp; omega
    have hq2 : (l[k].2 == l[a].2) = true := by simp; omega
    clear hg1 hg2 hd
    go_wp2_with fail
    go_quiet (fail)
    go_wp2_with fail
    go_quiet (fail)
    go_wp2
    go_roundw
    case rel => exact ⟨k + 1, a, false, by omega, by omega, by go_num, rfl, rfl, hn.out, _, rfl⟩
    case measure => simp [intOf]; omega
   ·have hn : Hid (topF l (hi - (k + 1)) (k + 1) a al = topS l lo hi) := hide (by rw [<- HT.out, hst.out, if_neg (by rw [hg1, hg2]; omega), if_neg (by rw [hg1, hg2]; omega)])
    have hq1 : decide (l[k].2 < l[a].2) = false := by simp; omega
    have hq2 : (l[k].2 == l[a].2) = false := by simp; omega
    clear hg1 hg2 hd
    go_wp2_with fail
    go_quiet (fail)
    go_wp2_with fail
    go_quiet (fail)
    go_wp2
    go_roundw
    case rel => exact ⟨k + 1, a, al, by omega, by omega, by go_num, rfl, rfl, hn.out, _, rfl⟩
    case measure => simp [intOf]; omega
  ·have hn : Hid (((a : Nat), al) = topS l lo hi) := hide (by rw [<- HT.out, show hi - k = 0 from by omega]; rfl)
   go_wp2
   go_ret2
   exact ⟨by rw [<- hn.out]; rfl, _, rfl⟩
def ptR (l : List IP) (lo hi : Nat) (d : Int) : Option PT :=
 if h : lo < hi then
  have := topS_in l lo hi h
  if (topS l lo hi).2 = true /\ gv l (topS l lo hi).1 = d then
   match ptR l lo (topS l lo hi).1 (d + 1), ptR l ((topS l lo hi).1 + 1) hi (d + 1) with
   | some a, some b => some (.node (topS l lo hi).1 a b)
   | _, _ => none
  else none
 else some .nil
termination_by hi - lo
theorem ptR_nil (l : List IP) (lo hi : Nat) (d : Int) (h : ¬ lo < hi) : ptR l lo hi d = some .nil := by rw [ptR, dif_neg h]
theorem ptR_node (l : List IP) (lo hi : Nat) (d : Int) (h : lo < hi) (at_ : Nat) (ht : topS l lo hi = (at_, true)) (hd : gv l at_ = d) :
  ptR l lo hi d = match ptR l lo at_ (d + 1), ptR l (at_ + 1) hi (d + 1) with
   | some a, some b => some (.node at_ a b)
   | _, _ => none := by
 rw [ptR, dif_pos h]
 simp only [ht, hd, and_self, if_true]
theorem ptR_none (l : List IP) (lo hi : Nat) (d : Int) (h : lo < hi) (hn : ¬ ((topS l lo hi).2 = true /\ gv l (topS l lo hi).1 = d)) : ptR l lo hi d = none := by
 rw [ptR, dif_pos h]
 simp only [if_neg hn]
theorem ptR_size (l : List IP) (lo hi : Nat) (d : Int) (t : PT) (hlh : lo <= hi) (h : ptR l lo hi d = some t) : t.size = hi - lo := by
 by_cases h0 : lo < hi
 ·have ht := topS_in l lo hi h0
  by_cases h1 : (topS l lo hi).2 = true /\ gv l (topS l lo hi).1 = d
  ·rw [ptR_node l lo hi d h0 (topS l lo hi).1 (by rw [<- h1.1]) h1.2] at h
   cases ha : ptR l lo (topS l lo hi).1 (d + 1) with
   | none => rw [ha] at h; simp at h
   | some a =>
    cases hb : ptR l ((topS l lo hi).1 + 1) hi (d + 1) with
    | none => rw [ha, hb] at h; simp at h
    | some b =>
     rw [ha, hb] at h
     simp only [Option.some.injEq] at h
     subst h
     have h2 := ptR_size l lo (topS l lo hi).1 (d + 1) a ht.1 ha
     have h3 := ptR_size l ((topS l lo hi).1 + 1) hi (d + 1) b (by omega) hb
     simp only [PT.size]
     omega
  ·rw [ptR_none l lo hi d h0 h1] at h
   cases h
 ·rw [ptR_nil l lo hi d h0] at h
  injection h with h
  subst h
  simp [PT.size]; omega
termination_by hi - lo
def PPost (l : List IP) (g lo hi : Nat) (above d : Int) (out : List Int) (r : Bool) (w : World) (e : Ending) (w' : World) : Prop :=
 ∃ out' : List Int, e = .returned (.bool r) /\ AR w' g 3 eInt out' /\ out'.length = out.length /\ Kg g w w' /\ (∀ j, (j < lo ∨ hi <= j) -> out'[j]? = out[j]?) /\
  ∀ t, ptR l lo hi d = some t -> ∀ j, j < hi - lo -> out'[lo + j]? = (t.pars above)[j]?
theorem parents_any (l : List IP) (v : Value) (g : Nat) (hl : l.length <= 1000) (hvg : 0 < l.length -> v.ownBlock ≠ some g) (n : Nat) : ∀ (lo hi : Nat) (above d : Int) (out : List Int) (r : Bool) (w : World), hi - lo <= n -> lo <= hi -> hi <= l.length -> 0 <= d -> d + n <= 1000000 ->
  RD w ePair v l -> AR w g 3 eInt out -> out.length = l.length -> (ptR l lo hi d).isSome = r ->
  Calls Tryz.prog 167 #[v, .int .i64 (lo : Int), .int .i64 (hi : Int), .int .i64 above, .int .i64 d, .slice (some ⟨g, 0, none⟩) out.length out.length] w (PPost l g lo hi above d out r w) := by
 induction n with
 | zero =>
  intro lo hi above d out r w h1 h2 h3 h4 h5 hr ha hol hres
  obtain rfl : lo = hi := by omega
  have hpt := ptR_nil l lo lo d (by omega)
  rw [hpt] at hres
  obtain rfl : true = r := hres
  have HPT := hide hpt
  have HA := hide ha
  clear hpt hr ha hol hvg
  go_enter Tryz.func167, Tryz.ntmps167
  go_wp2
  go_ret
  exact ⟨out, rfl, HA.out, rfl, Kg.refl _ _, fun _ _ => rfl, fun t ht j hj => by omega⟩
 | succ n ih =>
  intro lo hi above d out r w h1 h2 h3 h4 h5 hr ha hol hres
  by_cases hlt : lo < hi
  ·have hne : ((lo : Int) == (hi : Int)) = false := by simp; omega
   have htin := topS_in l lo hi hlt
   obtain ⟨⟨at_, al⟩, htop⟩ : ∃ p, p = topS l lo hi := ⟨_, rfl⟩
   rw [<- htop] at htin
   have HTC := hide (fun w h => top_any l v lo hi w h hlt h3)
   rw [<- htop] at HTC
   simp only at htin HTC
   obtain ⟨hi1, hi2⟩ := htin
   have HR := hide hr
   have HA := hide ha
   have HIH := hide ih
   have HVG := hide hvg
   clear hr ha ih hvg
   cases al with
   | false =>
    have hpt := ptR_none l lo hi d hlt (by rw [<- htop]; simp)
    rw [hpt] at hres
    obtain rfl : false = r := hres
    have HPT := hide hpt
    clear hpt hol htop
    go_enter Tryz.func167, Tryz.ntmps167
    go_wp2_with (go_at_call 128; refine (HTC.out _ HR.out).mono ?_; rintro e w1 ⟨rfl, m, rfl⟩)
    go_ret
    exact ⟨out, rfl, HA.out, rfl, Kg.of (Kp.refl _).drewN, fun _ _ => rfl, fun t ht => by rw [HPT.out] at ht; cases ht⟩
   | true =>
    obtain ⟨A, c, rfl, hc, hm⟩ := HR.out.shape
    have hatl : at_ < l.length := by omega
    obtain ⟨b, o, rfl, hb, c0, c1⟩ := HR.out.pair (k := at_) hatl
    have hgv := gv_eq l at_ hatl
    have b1 : (at_ : Int) < (l.length : Int) := by omega
    by_cases hd : l[at_].2 = d
    ·have hpt := ptR_node l lo hi d hlt at_ htop.symm (by rw [hgv, hd])
     have HD := hide hd
     have hnd : (l[at_].2 != d) = false := by simp [hd]
     clear hd hgv htop
     have HPT := hide hpt
     clear hpt
     have hw : IntKind.i64.wrap (d + 1) = d + 1 := IntWalk.i64_in _ (by omega)
     obtain ⟨x0, y0⟩ : ∃ x, w.cell? ⟨g, at_, none⟩ = some x := ⟨_, HA.out.int (by omega)⟩
     have f0 : w.frozen? ⟨g, at_, none⟩ = false := HA.out.frozen _
     have hgw := HA.out.lt
     have b2 : (at_ : Int) < (out.length : Int) := by omega
     have b3 : (out.length : Int) <= 1000 := by omega
     have HOL := hide hol
     clear hol
     have hsl : (out.set at_ above).length = out.length := by simp
     have HC1 := hide (fun r W (h : Kg g w W) (h2 : AR W g 3 eInt (out.set at_ above)) hr => HIH.out lo at_ at_ (d + 1) (out.set at_ above) r W (by omega) (by omega) (by omega) (by omega) (by omega) (HR.out.kg HVG.out h) h2 (by rw [hsl, HOL.out]) hr)
     have HC2 := hide (fun r W (out1 : List Int) (h0 : out1.length = out.length) (h : Kg g w W) (h2 : AR W g 3 eInt out1) hr => HIH.out (at_ + 1) hi at_ (d + 1) out1 r W (by omega) (by omega) (by omega) (by omega) (by omega) (HR.out.kg HVG.out h) h2 (by rw [h0, HOL.out]) hr)
     rw [hsl] at HC1
     have HSL := hide hsl
     clear hsl
     have tn : ((at_ : Int) + 1).toNat = at_ + 1 := by omega
     cases hpa : ptR l lo at_ (d + 1) with
     | none =>
      have hpn : ptR l lo hi d = none := by rw [HPT.out, hpa]
      rw [hpn] at hres
      obtain rfl : false = r := hres
      have HPN := hide hpn
      have HPA := hide hpa
      clear hpn hpa
      go_enter Tryz.func167, Tryz.ntmps167
      go_wp2_with (go_at_call 128; refine (HTC.out _ HR.out).mono ?_; rintro e w1 ⟨rfl, m, rfl⟩)
      refine (HC1.out false _ (Kg.of (Kp.refl w).drewN).set (HA.out.drewN.set above) (by rw [HPA.out]; rfl)).mono ?_
      rintro e w2 ⟨out1, rfl, ha1, hl1, hk1, hs1, ht1⟩
      have HA1 := hide ha1
      have HS1 := hide hs1
      have HL1 := hide hl1
      clear ha1 hl1 hs1 ht1
      go_wp2
      go_ret
      refine ⟨out1, rfl, HA1.out, by rw [HL1.out, HSL.out], (Kg.of (Kp.refl w).drewN).set.trans hk1, fun j hj => ?_, fun t ht => by rw [HPN.out] at ht; cases ht⟩
      rw [HS1.out j (by omega), List.getElem?_set_ne (by omega)]
     | some ta =>
      have hsa := ptR_size l lo at_ (d + 1) ta hi1 hpa
      cases hpb : ptR l (at_ + 1) hi (d + 1) with
      | none =>
       have hpn : ptR l lo hi d = none := by rw [HPT.out, hpa, hpb]
       rw [hpn] at hres
       obtain rfl : false = r := hres
       have HPN := hide hpn
       have HPA := hide hpa
       have HPB := hide hpb
       clear hpn hpa hpb hsa
       go_enter Tryz.func167, Tryz.ntmps167
       go_wp2_with (go_at_call 128; refine (HTC.out _ HR.out).mono ?_; rintro e w1 ⟨rfl, m, rfl⟩)
       refine (HC1.out true _ (Kg.of (Kp.refl w).drewN).set (HA.out.drewN.set above) (by rw [HPA.out]; rfl)).mono ?_
       rintro e w2 ⟨out1, rfl, ha1, hl1, hk1, hs1, ht1⟩
       have HA1 := hide ha1
       have HS1 := hide hs1
       have hk1' : Kg g w w2 := (Kg.of (Kp.refl w).drewN).set.trans hk1
       have hl1' : out1.length = out.length := by rw [hl1, HSL.out]
       have HC := HC2.out false w2 out1 hl1' hk1' HA1.out (by rw [HPB.out]; rfl)
       rw [hl1'] at HC
       have HCH := hide HC
       have HL1 := hide hl1'
       clear ha1 hl1 hs1 ht1 HC hl1'
       go_wp2_with fail
       refine HCH.out.mono ?_
       rintro e w3 ⟨out2, rfl, ha2, hl2, hk2, hs2, ht2⟩
       have HA2 := hide ha2
       have HS2 := hide hs2
       have HL2 := hide hl2
       clear ha2 hl2 hs2 ht2
       go_wp2
       go_ret
       refine ⟨out2, rfl, HA2.out, by rw [HL2.out, HL1.out], hk1'.trans hk2, fun j hj => ?_, fun t ht => by rw [HPN.out] at ht; cases ht⟩
       rw [HS2.out j (by omega), HS1.out j (by omega), List.getElem?_set_ne (by omega)]
      | some tb =>
       have hpn : ptR l lo hi d = some (.node at_ ta tb) := by rw [HPT.out, hpa, hpb]
       rw [hpn] at hres
       obtain rfl : true = r := hres
       have HPN := hide hpn
       have HPA := hide hpa
       have HPB := hide hpb
       have HSA := hide hsa
       clear hpn hpa hpb hsa
       go_enter Tryz.func167, Tryz.ntmps167
       go_wp2_with (go_at_call 128; refine (HTC.out _ HR.out).mono ?_; rintro e w1 ⟨rfl, m, rfl⟩)
       refine (HC1.out true _ (Kg.of (Kp.refl w).drewN).set (HA.out.drewN.set above) (by rw [HPA.out]; rfl)).mono ?_
       rintro e w2 ⟨out1, rfl, ha1, hl1, hk1, hs1, ht1⟩
       have HA1 := hide ha1
       have HS1 := hide hs1
       have HT1 := hide ht1
       have hk1' : Kg g w w2 := (Kg.of (Kp.refl w).drewN).set.trans hk1
       have hl1' : out1.length = out.length := by rw [hl1, HSL.out]
       have HC := HC2.out true w2 out1 hl1' hk1' HA1.out (by rw [HPB.out]; rfl)
       rw [hl1'] at HC
       have HCH := hide HC
       have HL1 := hide hl1'
       clear ha1 hl1 hs1 ht1 HC hl1'
       go_wp2_with fail
       refine HCH.out.mono ?_
       rintro e w3 ⟨out2, rfl, ha2, hl2, hk2, hs2, ht2⟩
       have HA2 := hide ha2
       have HS2 := hide hs2
       have HL2 := hide hl2
       have HT2 := hide ht2
       clear ha2 hl2 hs2 ht2
       go_wp2
       go_ret
       refine ⟨out2, rfl, HA2.out, by rw [HL2.out, HL1.out], hk1'.trans hk2, fun j hj => ?_, fun t ht j hj => ?_⟩
       ·rw [HS2.out j (by omega), HS1.out j (by omega), List.getElem?_set_ne (by omega)]
       ·rw [HPN.out] at ht
        injection ht with ht
        subst ht
        have hsa := HSA.out
        have hpl := PT.pars_len ta (at_ : Int)
        have h9 := HOL.out
        simp only [PT.pars, List.append_assoc]
        rcases Nat.lt_trichotomy j (at_ - lo) with hj1 | hj1 | hj1
        ·rw [HS2.out _ (by omega), HT1.out ta HPA.out j hj1, List.getElem?_append_left (by omega)]
        ·rw [HS2.out _ (by omega), HS1.out _ (by omega), List.getElem?_append_right (by omega), hpl, show j - ta.size = 0 from by omega]
         rw [show lo + j = at_ from by omega, List.getElem?_set_self (by omega)]
         rfl
        ·have h8 := HT2.out tb HPB.out (j - (at_ + 1 - lo)) (by omega)
         rw [show at_ + 1 + (j - (at_ + 1 - lo)) = lo + j from by omega] at h8
         rw [h8, List.getElem?_append_right (by omega), hpl, show j - ta.size = (j - (at_ + 1 - lo)) + 1 from by omega]
         rfl
    ·have hpt := ptR_none l lo hi d hlt (by rw [<- htop]; simp only [hgv]; exact fun h => hd h.2)
     rw [hpt] at hres
     obtain rfl : false = r := hres
     have HPT := hide hpt
     have hnd : (l[at_].2 != d) = true := by simp [hd]
     clear hpt hol htop hd hgv
     go_enter Tryz.func167, Tryz.ntmps167
     go_wp2_with (go_at_call 128; refine (HTC.out _ HR.out).mono ?_; rintro e w1 ⟨rfl, m, rfl⟩)
     go_ret
     exact ⟨out, rfl, HA.out, rfl, Kg.of (Kp.refl _).drewN, fun _ _ => rfl, fun t ht => by rw [HPT.out] at ht; cases ht⟩
  ·obtain rfl : lo = hi := by omega
   have hpt := ptR_nil l lo lo d (by omega)
   rw [hpt] at hres
   obtain rfl : true = r := hres
   have HPT := hide hpt
   have HA := hide ha
   clear hpt hr ha hol hvg ih
   go_enter Tryz.func167, Tryz.ntmps167
   go_wp2
   go_ret
   exact ⟨out, rfl, HA.out, rfl, Kg.refl _ _, fun _ _ => rfl, fun t ht j hj => by omega⟩
def gk (l : List IP) (k : Nat) : Int := (l.getD k (0, 0)).1
theorem gk_eq (l : List IP) (k : Nat) (h : k < l.length) : gk l k = l[k].1 := by simp [gk, List.getD_eq_getElem?_getD, List.getElem?_eq_getElem h]
def walkF (l : List IP) (last : Bool) (lo hi : Nat) : List Int :=
 if h : lo < hi then
  have := topS_in l lo hi h
  if last then walkF l last lo (topS l lo hi).1 ++ walkF l last ((topS l lo hi).1 + 1) hi ++ [gk l (topS l lo hi).1]
  else [gk l (topS l lo hi).1] ++ walkF l last lo (topS l lo hi).1 ++ walkF l last ((topS l lo hi).1 + 1) hi
 else []
termination_by hi - lo
theorem walkF_nil (l : List IP) (last : Bool) (lo hi : Nat) (h : ¬ lo < hi) : walkF l last lo hi = [] := by rw [walkF, dif_neg h]
theorem walkF_last (l : List IP) (lo hi : Nat) (h : lo < hi) : walkF l true lo hi = walkF l true lo (topS l lo hi).1 ++ walkF l true ((topS l lo hi).1 + 1) hi ++ [gk l (topS l lo hi).1] := by rw [walkF, dif_pos h, if_pos rfl]
theorem walkF_first (l : List IP) (lo hi : Nat) (h : lo < hi) : walkF l false lo hi = [gk l (topS l lo hi).1] ++ walkF l false lo (topS l lo hi).1 ++ walkF l false ((topS l lo hi).1 + 1) hi := by rw [walkF, dif_pos h, if_neg (by simp)]
theorem walkF_len (l : List IP) (last : Bool) (lo hi : Nat) : (walkF l last lo hi).length = hi - lo := by
 by_cases h : lo < hi
 ·have ht := topS_in l lo hi h
  have h1 := walkF_len l last lo (topS l lo hi).1
  have h2 := walkF_len l last ((topS l lo hi).1 + 1) hi
  cases last
  ·rw [walkF_first l lo hi h]; simp [h1, h2]; omega
  ·rw [walkF_last l lo hi h]; simp [h1, h2]; omega
 ·rw [walkF_nil l last lo hi h]; simp; omega
termination_by hi - lo
theorem seg_split (l : List IP) (lo at_ hi : Nat) (h1 : lo <= at_) (h2 : at_ < hi) (h3 : hi <= l.length) : (l.take hi).drop lo = (l.take at_).drop lo ++ [l[at_]'(by omega)] ++ (l.take hi).drop (at_ + 1) := by
 apply List.ext_getElem?
 intro j
 by_cases hj : j < hi - lo
 ·rw [List.getElem?_drop, List.getElem?_take, if_pos (by omega)]
  rcases Nat.lt_trichotomy (lo + j) at_ with h | h | h
  ·rw [List.append_assoc, List.getElem?_append_left (by simp; omega), List.getElem?_drop, List.getElem?_take, if_pos h]
  ·rw [List.append_assoc, List.getElem?_append_right (by simp; omega)]
   rw [show j - (List.drop lo (List.take at_ l)).length = 0 from by simp; omega]
   rw [h]; simp
  ·rw [List.getElem?_append_right (by simp; omega)]
   simp only [List.length_append, List.length_drop, List.length_take, List.length_singleton]
   rw [List.getElem?_drop, List.getElem?_take, if_pos (by omega)]
   congr 1; omega
 ·rw [List.getElem?_eq_none (by simp; omega), List.getElem?_eq_none (by simp; omega)]
theorem walk_any (l : List IP) (v : Value) (g B : Nat) (last : Bool) (hl : l.length <= 1000) (hg : B <= g) (hvg : 0 < l.length -> Lo B v) (n : Nat) : ∀ (lo hi : Nat) (acc : List Int) (w : World), hi - lo <= n -> lo <= hi -> hi <= l.length -> acc.length + (hi - lo) <= 100000 ->
  RD w ePair v l -> OB w B g 69 3 eInt acc -> B <= w.heap.size ->
  Calls Tryz.prog 76 #[v, .int .i64 (lo : Int), .int .i64 (hi : Int), .bool last, .pointer (some ⟨g, 0, none⟩)] w (WPost B g 69 3 eInt (.tuple #[]) (acc ++ walkF l last lo hi) w) := by
 induction n with
 | zero =>
  intro lo hi acc w h1 h2 h3 h4 hr ho hB
  obtain rfl : lo = hi := by omega
  have H1 := hide (walkF_nil l last lo lo (by omega))
  have HO := hide ho
  clear ho hr hvg
  go_enter Tryz.func76, Tryz.ntmps76
  go_wp2
  obtain ⟨u, hb, hu, hn⟩ := HO.out
  exact bodyPost_ret (v := .tuple #[]) (by simp [results, Tryz.results76, go_sem]) rfl ⟨rfl, by rw [H1.out, List.append_nil]; exact HO.out, KO.refl (hb.cell 0)⟩
 | succ n ih =>
  intro lo hi acc w h1 h2 h3 h4 hr ho hB
  by_cases hlt : lo < hi
  ·have hne : ((lo : Int) == (hi : Int)) = false := by simp; omega
   have htin := topS_in l lo hi hlt
   have HWL := hide (walkF_last l lo hi hlt)
   have HWF := hide (walkF_first l lo hi hlt)
   have hw1 := walkF_len l last lo (topS l lo hi).1
   have hw2 := walkF_len l last ((topS l lo hi).1 + 1) hi
   have HTC := hide (fun w h => top_any l v lo hi w h hlt h3)
   obtain ⟨⟨at_, al⟩, htop⟩ : ∃ p, p = topS l lo hi := ⟨_, rfl⟩
   rw [<- htop] at htin HTC HWL HWF hw1 hw2
   simp only at htin HTC HWL HWF hw1 hw2
   obtain ⟨hi1, hi2⟩ := htin
   have hatl : at_ < l.length := by omega
   obtain ⟨A, c, rfl, hc, hm⟩ := hr.shape
   have HGK := hide (gk_eq l at_ hatl)
   have HR := hide hr
   have HO := hide ho
   have HIH := hide ih
   have HVG := hide hvg
   obtain ⟨u, hb, hu, hn⟩ := ho
   clear hr ih hvg htop
   have hwr : IntKind.i64.wrap ((at_ : Int) + 1) = (at_ : Int) + 1 := IntWalk.i64_in _ (by omega)
   have HLH := hide h4
   have HBh := hide hB
   have HC := hide (fun lo hi acc W k1 k2 k3 k4 hr ho hb => HIH.out lo hi acc W k1 k2 k3 k4 hr ho hb)
   obtain ⟨b, o, rfl, _, c0, c1⟩ := HR.out.pair (k := at_) hatl
   have b1 : (at_ : Int) < (l.length : Int) := by omega
   have b0 : (0 : Int) <= (at_ : Int) := by omega
   cases last with
   | false =>
    have HM1 : Hid ((acc.length + [l[at_].1].length) * 8 <= 140737488355328) := hide (by simp; omega)
    have HM2 : Hid (acc.length + [l[at_].1].length <= maxLen) := hide (by simp [maxLen]; omega)
    have hblk : u.ownBlock ≠ some b := fun e => by have := HVG.out (by omega) b rfl; have := (hu.lt b e).1; omega
    have KS : Hid (∀ W', KV u w W' -> (W'.cell? ⟨b, o + at_ * 2, none⟩ = some (.int .i64 l[at_].1) /\ W'.cell? ⟨g, 0, none⟩ = some u /\ W'.frozen? ⟨g, 0, none⟩ = false /\ KV u w W')) :=
     hide fun W' h => ⟨h.cell hblk c0, h.cell hn (hb.cell 0), (h.frozen hb.lt hn).trans (hb.frozen 0), h⟩
    go_enter Tryz.func76, Tryz.ntmps76
    go_wp2_with (go_at_call 128; refine (HTC.out _ HR.out).mono ?_; rintro e w1 ⟨rfl, m, rfl⟩)
    have g0 := hb.cell 0
    have f0 := hb.frozen 0
    have L1 : ∀ n o, ((w.drewN n).alloc o).cell? ⟨g, 0, none⟩ = some u := fun n o => ((Kp.refl w).drewN.alloc).cell g0
    have L2 : ∀ n o', ((w.drewN n).alloc o').cell? ⟨b, o + at_ * 2, none⟩ = some (.int .i64 l[at_].1) := fun n o' => ((Kp.refl w).drewN.alloc).cell c0
    go_region_law (((with_reducible refine step_app (l := acc) (m := [l[at_].1]) row_int u ?_ (.tmp 27) (.tmp 33) ?_ ?_ ?_ ?_ HM1.out HM2.out (Nat.le_trans HBh.out (KV.size (w := w) (v := u) ?_)) ?_); (with_reducible rfl); (with_reducible rfl); rfl; (exact OW.auto); (show RD _ _ (.slice (some ⟨_, 0, none⟩) 1 1) _; (exact RD.auto)); (go_split_ands; (focus ((repeat (first | (with_reducible first | assumption | exact KV.refl _ _ | apply KV.drew | apply KV.drewN | apply KV.alloc) | ((with_reducible apply KV.call); (with_reducible assumption)) | ((with_reducible apply KV.app); (with_reducible assumption)))); done))); intro v3 w3 ho3 hg3 hat3; obtain ⟨_, sc3, sf3, _⟩ := KS.out w3 (by go_split_ands; (focus ((repeat (first | (with_reducible first | assumption | exact KV.refl _ _ | apply KV.drew | apply KV.drewN | apply KV.alloc) | ((with_reducible apply KV.call); (with_reducible assumption)) | ((with_reducible apply KV.app); (with_reducible assumption)))); done))); obtain ⟨A3, N3, c3, rfl⟩ := ho3.rd.slice))
    all_goals
     have hat9 := hat3.imp id (fun e => show Hi w.heap.size (Value.slice A3 N3 c3) from fun k hk => by rw [e] at hk; injection hk with hk; subst hk; simp <;> omega)
     obtain ⟨ho4, hk4⟩ := ob_app hb hu hn (show KV u w w3 by (focus ((repeat (first | (with_reducible first | assumption | exact KV.refl _ _ | apply KV.drew | apply KV.drewN | apply KV.alloc) | ((with_reducible apply KV.call); (with_reducible assumption)) | ((with_reducible apply KV.app); (with_reducible assumption)))); done))) ho3 hat9
     have HR4 := hide (HR.out.ko HO.out hk4 HVG.out hg)
     have HZ4 := hide hk4.size
     have HO4 := hide ho4
     have HK4 := hide hk4
     clear ho4 hk4 hat9 hat3 hg3 ho3 sc3 sf3 L1 L2 g0 f0
     go_wp2_with fail
     refine (HC.out lo at_ (acc ++ [l[at_].1]) _ (by omega) hi1 (by omega) (by (try simp only [List.length_append, List.length_cons, List.length_nil]); skip; omega) HR4.out HO4.out (Nat.le_trans HBh.out (by have := HZ4.out; omega))).mono ?_
     rintro e w5 ⟨rfl, ho5, hk5⟩
     have HR5 := hide (HR4.out.ko HO4.out hk5 HVG.out hg)
     have HZ5 : Hid (w.heap.size <= w5.heap.size) := hide (by have h1 := HZ4.out; have h2 := hk5.size; omega)
     have HO5 := hide ho5
     have HK5 := hide (HK4.out.trans hk5)
     clear ho5 hk5
     go_wp2_with fail
     refine (HC.out (at_ + 1) hi (acc ++ [l[at_].1] ++ walkF l false lo at_) _ (by omega) (by omega) (by omega) (by (try simp only [List.length_append, List.length_cons, List.length_nil]); rw [hw1]; omega) HR5.out HO5.out (Nat.le_trans HBh.out (by have := HZ5.out; omega))).mono ?_
     rintro e w6 ⟨rfl, ho6, hk6⟩
     have HR6 := hide (HR5.out.ko HO5.out hk6 HVG.out hg)
     have HZ6 : Hid (w.heap.size <= w6.heap.size) := hide (by have h1 := HZ5.out; have h2 := hk6.size; omega)
     have HO6 := hide ho6
     have HK6 := hide (HK5.out.trans hk6)
     clear ho6 hk6
     go_wp2
     exact bodyPost_ret (v := .tuple #[]) (by simp [results, Tryz.results76, go_sem]) rfl ⟨rfl, by rw [HWF.out, HGK.out]; simpa [List.append_assoc] using HO6.out, HK6.out⟩
   | true =>
    go_enter Tryz.func76, Tryz.ntmps76
    go_wp2_with (go_at_call 128; refine (HTC.out _ HR.out).mono ?_; rintro e w1 ⟨rfl, m, rfl⟩)
    have HO4 := hide (HO.out.kp ((Kp.refl w).drewN (n := m)))
    have HR4 := hide (HR.out.kp ((Kp.refl w).drewN (n := m)))
    have HZ4 := hide ((Kp.refl w).drewN (n := m)).size
    have HK4 : Hid (KO g B w (w.drewN m)) := hide ((KO.refl (hb.cell 0)).on (Kp.refl w).drewN)
    refine (HC.out lo at_ acc _ (by omega) hi1 (by omega) (by (try simp only [List.length_append, List.length_cons, List.length_nil]); skip; omega) HR4.out HO4.out (Nat.le_trans HBh.out (by have := HZ4.out; omega))).mono ?_
    rintro e w5 ⟨rfl, ho5, hk5⟩
    have HR5 := hide (HR4.out.ko HO4.out hk5 HVG.out hg)
    have HZ5 : Hid (w.heap.size <= w5.heap.size) := hide (by have h1 := HZ4.out; have h2 := hk5.size; omega)
    have HO5 := hide ho5
    have HK5 := hide (HK4.out.trans hk5)
    clear ho5 hk5
    go_wp2_with fail
    refine (HC.out (at_ + 1) hi (acc ++ walkF l true lo at_) _ (by omega) (by omega) (by omega) (by (try simp only [List.length_append, List.length_cons, List.length_nil]); rw [hw1]; omega) HR5.out HO5.out (Nat.le_trans HBh.out (by have := HZ5.out; omega))).mono ?_
    rintro e w6 ⟨rfl, ho6, hk6⟩
    have HR6 := hide (HR5.out.ko HO5.out hk6 HVG.out hg)
    have HZ6 : Hid (w.heap.size <= w6.heap.size) := hide (by have h1 := HZ5.out; have h2 := hk6.size; omega)
    have HO6 := hide ho6
    have HK6 := hide (HK5.out.trans hk6)
    clear ho6 hk6
    obtain ⟨u6, hb6, hu6, hn6⟩ := HO6.out
    obtain ⟨b', o', e1, _, d0, _⟩ := HR6.out.pair (k := at_) hatl
    injection e1 with e1
    injection e1 with e2 e3
    subst e2 e3
    obtain ⟨acc6, hacc⟩ : ∃ a, a = acc ++ walkF l true lo at_ ++ walkF l true (at_ + 1) hi := ⟨_, rfl⟩
    have hal : acc6.length <= 100000 := by rw [hacc]; simp only [List.length_append, hw1, hw2]; omega
    have HACC := hide hacc
    rw [<- hacc] at hu6
    clear hacc
    have HM1 : Hid ((acc6.length + [l[at_].1].length) * 8 <= 140737488355328) := hide (by simp; omega)
    have HM2 : Hid (acc6.length + [l[at_].1].length <= maxLen) := hide (by simp [maxLen]; omega)
    have hblk : u6.ownBlock ≠ some b := fun e => by have := HVG.out (by omega) b rfl; have := (hu6.lt b e).1; omega
    have KS : Hid (∀ W', KV u6 w6 W' -> (W'.cell? ⟨b, o + at_ * 2, none⟩ = some (.int .i64 l[at_].1) /\ W'.cell? ⟨g, 0, none⟩ = some u6 /\ W'.frozen? ⟨g, 0, none⟩ = false /\ KV u6 w6 W')) :=
     hide fun W' h => ⟨h.cell hblk d0, h.cell hn6 (hb6.cell 0), (h.frozen hb6.lt hn6).trans (hb6.frozen 0), h⟩
    have g0 := hb6.cell 0
    have f0 := hb6.frozen 0
    have HB6 : Hid (B <= w6.heap.size) := hide (Nat.le_trans HBh.out HZ6.out)
    have L1 : ∀ n o, ((w6.drewN n).alloc o).cell? ⟨g, 0, none⟩ = some u6 := fun n o => ((Kp.refl w6).drewN.alloc).cell g0
    have L2 : ∀ n o', ((w6.drewN n).alloc o').cell? ⟨b, o + at_ * 2, none⟩ = some (.int .i64 l[at_].1) := fun n o' => ((Kp.refl w6).drewN.alloc).cell d0
    have L3 : ∀ o, (w6.drew.alloc o).cell? ⟨g, 0, none⟩ = some u6 := fun o => ((Kp.refl w6).drew.alloc).cell g0
    have L4 : ∀ o', (w6.drew.alloc o').cell? ⟨b, o + at_ * 2, none⟩ = some (.int .i64 l[at_].1) := fun o' => ((Kp.refl w6).drew.alloc).cell d0
    have L5 : ∀ o, ((w6.alloc o).drew).cell? ⟨g, 0, none⟩ = some u6 := fun o => ((Kp.refl w6).alloc.drew).cell g0
    have L6 : ∀ o', ((w6.alloc o').drew).cell? ⟨b, o + at_ * 2, none⟩ = some (.int .i64 l[at_].1) := fun o' => ((Kp.refl w6).alloc.drew).cell d0
    have L7 : ∀ o, (w6.alloc o).cell? ⟨g, 0, none⟩ = some u6 := fun o => ((Kp.refl w6).alloc).cell g0
    have L8 : ∀ o', (w6.alloc o').cell? ⟨b, o + at_ * 2, none⟩ = some (.int .i64 l[at_].1) := fun o' => ((Kp.refl w6).alloc).cell d0
    clear c0
    go_wp2_with fail
    go_region_law (((with_reducible refine step_app (l := acc6) (m := [l[at_].1]) row_int u6 ?_ (.tmp 53) (.tmp 59) ?_ ?_ ?_ ?_ HM1.out HM2.out (Nat.le_trans HB6.out (KV.size (w := w6) (v := u6) ?_)) ?_); (with_reducible rfl); (with_reducible rfl); rfl; (exact OW.auto); (show RD _ _ (.slice (some ⟨_, 0, none⟩) 1 1) _; (exact RD.auto)); (go_split_ands; (focus ((repeat (first | (with_reducible first | assumption | exact KV.refl _ _ | apply KV.drew | apply KV.drewN | apply KV.alloc) | ((with_reducible apply KV.call); (with_reducible assumption)) | ((with_reducible apply KV.app); (with_reducible assumption)))); done))); intro v3 w3 ho3 hg3 hat3; obtain ⟨_, sc3, sf3, _⟩ := KS.out w3 (by go_split_ands; (focus ((repeat (first | (with_reducible first | assumption | exact KV.refl _ _ | apply KV.drew | apply KV.drewN | apply KV.alloc) | ((with_reducible apply KV.call); (with_reducible assumption)) | ((with_reducible apply KV.app); (with_reducible assumption)))); done))); obtain ⟨A3, N3, c3, rfl⟩ := ho3.rd.slice))
    all_goals
     have hat9 := hat3.imp id (fun e => show Hi w6.heap.size (Value.slice A3 N3 c3) from fun k hk => by rw [e] at hk; injection hk with hk; subst hk; simp <;> omega)
     obtain ⟨ho4, hk4⟩ := ob_app hb6 hu6 hn6 (show KV u6 w6 w3 by (focus ((repeat (first | (with_reducible first | assumption | exact KV.refl _ _ | apply KV.drew | apply KV.drewN | apply KV.alloc) | ((with_reducible apply KV.call); (with_reducible assumption)) | ((with_reducible apply KV.app); (with_reducible assumption)))); done))) ho3 hat9
     have HO7 := hide ho4
     have HK7 := hide (HK6.out.trans hk4)
     clear ho4 hk4 hat9 hat3 hg3 ho3 sc3 sf3 L1 L2 L3 L4 L5 L6 L7 L8 g0 f0
     go_wp2
     exact bodyPost_ret (v := .tuple #[]) (by simp [results, Tryz.results76, go_sem]) rfl ⟨rfl, by rw [HWL.out, HGK.out]; have h := HO7.out; rw [HACC.out] at h; simpa [List.append_assoc] using h, HK7.out⟩
  ·have hne : ((lo : Int) == (hi : Int)) = true := by simp; omega
   have H1 := hide (walkF_nil l last lo hi hlt)
   have HO := hide ho
   clear ho hr hvg ih
   go_enter Tryz.func76, Tryz.ntmps76
   go_wp2
   obtain ⟨u, hb, hu, hn⟩ := HO.out
   exact bodyPost_ret (v := .tuple #[]) (by simp [results, Tryz.results76, go_sem]) rfl ⟨rfl, by rw [H1.out, List.append_nil]; exact HO.out, KO.refl (hb.cell 0)⟩
end Go.Proofs.YtcljlnagpjilaaaGreatDoor
