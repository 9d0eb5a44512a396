/-
  vine.press: what it answers. Conditions: the tree is written (MR), the root's link a variable of the call's own, so many can come up.
-/
import Derived.Test.YtnpogfodopodoaaVStr
namespace Go.Proofs.Ytnpogfodopodoaa
open Go.ChangeShapes Go.WideShapes Go.ChangeAt Go.RowKit
set_option linter.unusedVariables false
set_option linter.unusedSimpArgs false

def PrRel (nt pt : TypeId) (T0 : MT Int) (base : World) (r0b many : Nat) (w : World) (qv iv : Value) (wr : World) : Prop :=
  ∃ T F C q t p Fc Ft i, qv = .pointer (some q) ∧ iv = .int .i64 ((i : Nat) : Int) ∧ At_ wr nt eInt (fun _ => 0) ⟨r0b, 0, none⟩ T F 1 C q t p Fc Ft ∧ r0b ∉ F ∧ (∃ v, BC wr r0b pt [v]) ∧ (∀ x ∈ F, base.heap.size ≤ x) ∧ i ≤ many ∧
    2 * (many - i) ≤ rs t ∧ plug C (pressM (many - i) t) = pressM many T0 ∧ KN nt pt w wr ∧ Kp base wr
def PrPost (nt pt : TypeId) (T1 : MT Int) (base : World) (r0b : Nat) (w : World) (e : Ending) (w' : World) : Prop :=
  ∃ p F, e = .returned (.tuple #[]) ∧ BC w' r0b pt [.pointer p] ∧ MR w' nt eInt T1 p F ∧ r0b ∉ F ∧ (∀ x ∈ F, base.heap.size ≤ x) ∧ KN nt pt w w' ∧ Kp base w'
set_option maxRecDepth 100000 in
set_option maxHeartbeats 8000000 in
theorem press_any (T0 : MT Int) (base : World) (r0b many : Nat) (p0 : Option Addr) (F0 : List Nat) (w : World) (hmany : many ≤ 100000) (hrs : 2 * many ≤ rs T0)
    (hr0 : BC w r0b 51 [.pointer p0]) (hm : MR w 72 eInt T0 p0 F0) (hrF : r0b ∉ F0) (hF : ∀ x ∈ F0, base.heap.size ≤ x) (hrb : base.heap.size ≤ r0b) (hk : Kp base w) :
    Calls Try.prog 27 #[.pointer (some ⟨r0b, 0, none⟩), .int .i64 (many : Int)] w (PrPost 72 51 (pressM many T0) base r0b w) := by
  have HS := hide (show PrRel 72 51 T0 base r0b many w (.pointer (some ⟨r0b, 0, none⟩)) (.int .i64 ((0 : Nat) : Int)) w from
    ⟨T0, F0, [], _, T0, p0, [], F0, 0, rfl, rfl, At_.start (kf := fun _ => 0) 1 (hr0.cell 0) (hr0.frozen 0) hm, hrF, ⟨_, hr0⟩, hF, by omega, hrs, rfl, Kf.refl _ _, hk⟩)
  clear hr0 hm hrF hF hk hrs
  go_enter Try.func27, Try.ntmps27
  go_wp2
  go_loopw [4, 8] (PrRel 72 51 T0 base r0b many w) (fun _ i _ => many - (intOf i).toNat)
  case atStart => exact HS.out
  case round =>
    obtain ⟨T, F, C, q, t, p, Fc, Ft, i, rfl, rfl, ha, hrF, ⟨vr, hr0⟩, hF, hi, hrs, hpl, hkn, hkp⟩ := hrel
    have HA := hide ha
    have HRF := hide hrF
    have HR0 := hide hr0
    have HFB := hide hF
    have HKN := hide hkn
    have HKP := hide hkp
    have HPL := hide hpl
    have HRS := hide hrs
    by_cases hlt : i < many
    · obtain ⟨a, l, c, x, y, rfl⟩ := rs_two (t := t) (by omega)
      have c0 := ha.cell
      have f0 := ha.fz
      have hm := ha.mr
      obtain ⟨b, pl, pr, Fl, Fr, rfl, rfl, hb, g1, g2, g3, hl, hr2⟩ := hm
      obtain ⟨b2, px, py, Fx, Fy, rfl, rfl, hb2, i1, i2, i3, hx, hy⟩ := hr2
      have cr : wr.cell? ⟨b, 2, none⟩ = some (.pointer (some ⟨b2, 0, none⟩)) := hb.link false
      have cl2 : wr.cell? ⟨b2, 1, none⟩ = some (.pointer px) := hb2.link true
      have HRA : Hid (At_ (((wr.setCell ⟨b, 2, none⟩ (.pointer px)).setCell ⟨b2, 1, none⟩ (.pointer (some ⟨b, 0, none⟩))).setCell q (.pointer (some ⟨b2, 0, none⟩))) 72 eInt (fun _ => 0) ⟨r0b, 0, none⟩ (plug C (.node c (.node a l x) y)) F 1 (⟨c, false, .node a l x⟩ :: C) ⟨b2, 2, none⟩ y py (b2 :: ((b :: (Fl ++ Fx)) ++ Fc)) Fy) := hide ((HA.out.rotL HRF.out hb hb2 g1 g2 g3 i1 i2 i3 hx hy hl).2 (by decide))
      have hbq : q.block ≠ b := HA.out.qblk HRF.out (by simp)
      have hb2q : q.block ≠ b2 := HA.out.qblk HRF.out (by simp)
      have hbF : b ∈ F := HA.out.sub b (.inl (by simp))
      have hb2F : b2 ∈ F := HA.out.sub b2 (.inl (by simp))
      have hbr : b ≠ r0b := fun e => HRF.out (by rw [← e]; exact hbF)
      have hb2r : b2 ≠ r0b := fun e => HRF.out (by rw [← e]; exact hb2F)
      have hbb : b ≠ b2 := fun e => g2 (by rw [e]; simp)
      have KN5 : Hid (KN 72 51 wr (((wr.setCell ⟨b, 2, none⟩ (.pointer px)).setCell ⟨b2, 1, none⟩ (.pointer (some ⟨b, 0, none⟩))).setCell q (.pointer (some ⟨b2, 0, none⟩)))) := hide (by
        refine Kf.set (Kf.set (Kf.set (Kf.refl _ _) (.inl ⟨_, _, .inl rfl, hb⟩)) (.inl ⟨_, _, .inl rfl, hb2⟩)) (.inl ?_)
        rcases HA.out.zp.at_ with e | hq
        · rw [e]; exact ⟨_, _, .inr rfl, hr0⟩
        · obtain ⟨cs, hb⟩ := HA.out.zp.bc _ hq
          exact ⟨_, cs, .inl rfl, hb⟩)
      have KPN : Hid (Kp base (((wr.setCell ⟨b, 2, none⟩ (.pointer px)).setCell ⟨b2, 1, none⟩ (.pointer (some ⟨b, 0, none⟩))).setCell q (.pointer (some ⟨b2, 0, none⟩)))) := hide (by
        refine Kp.set (Kp.set (Kp.set hkp (HFB.out b hbF) _) (HFB.out b2 hb2F) _) ?_ _
        rcases HA.out.zp.at_ with e | hq
        · rw [e]; exact hrb
        · exact HFB.out _ (HA.out.sub _ (.inr hq)))
      have RB : Hid (∃ v, BC (((wr.setCell ⟨b, 2, none⟩ (.pointer px)).setCell ⟨b2, 1, none⟩ (.pointer (some ⟨b, 0, none⟩))).setCell q (.pointer (some ⟨b2, 0, none⟩))) r0b 51 [v]) := hide (by
        have h1 := (hr0.far (p := ⟨b, 2, none⟩) (u := .pointer px) (fun e => hbr e.symm)).far (p := ⟨b2, 1, none⟩) (u := .pointer (some ⟨b, 0, none⟩)) (fun e => hb2r e.symm)
        rcases HA.out.zp.at_ with e | hq
        · subst e; exact ⟨_, h1.set⟩
        · exact ⟨_, h1.far (fun e => HRF.out (HA.out.sub _ (.inr (by rw [e]; exact hq))))⟩)
      have f1 := hb.frozen 2
      have f2 := hb2.frozen 1
      have n1 : ¬ b = b2 := hbb
      have n2 : ¬ b2 = b := fun e => hbb e.symm
      have q1 : ∀ (j : Nat) (u : Value) (X : World), (X.setCell ⟨b, j, none⟩ u).cell? q = X.cell? q := fun j u X => World.cell?_setCell_other _ _ _ _ (fun e => hbq (by rw [← e]))
      have q2 : ∀ (j : Nat) (u : Value) (X : World), (X.setCell ⟨b2, j, none⟩ u).cell? q = X.cell? q := fun j u X => World.cell?_setCell_other _ _ _ _ (fun e => hb2q (by rw [← e]))
      have bi : ((i : Nat) : Int) < (many : Int) := by omega
      clear hbq hb2q hbF hb2F hbr hb2r hbb hb hb2 g1 g2 g3 i1 i2 i3 hx hy hl ha hr0 hrF hF hkn hkp hpl hrs
      go_wp2_with fail
      go_region_law (fail)
      all_goals
        go_wp2
        go_roundw
        case rel =>
          obtain ⟨v9, hv9⟩ := RB.out
          refine ⟨_, F, _, _, y, _, _, _, i + 1, rfl, by go_num, HRA.out.kp (by (focus ((repeat (first | (with_reducible assumption) | (with_reducible exact Kp.refl _) | (with_reducible apply Kp.drew) | (with_reducible apply Kp.drewN) | ((with_reducible apply Kp.setR); (focus (first | (with_reducible assumption) | (simp; done) | (simp; omega)))) | (with_reducible apply Kp.alloc) | ((with_reducible apply Kp.call); (with_reducible assumption)) | ((with_reducible apply Kp.app); (with_reducible assumption)))); done))) hv9.lt, HRF.out, ⟨v9, hv9.kp (by (focus ((repeat (first | (with_reducible assumption) | (with_reducible exact Kp.refl _) | (with_reducible apply Kp.drew) | (with_reducible apply Kp.drewN) | ((with_reducible apply Kp.setR); (focus (first | (with_reducible assumption) | (simp; done) | (simp; omega)))) | (with_reducible apply Kp.alloc) | ((with_reducible apply Kp.call); (with_reducible assumption)) | ((with_reducible apply Kp.app); (with_reducible assumption)))); done)))⟩, HFB.out, by omega, ?_, ?_, HKN.out.trans (KN5.out.trans (KN.of (by (focus ((repeat (first | (with_reducible assumption) | (with_reducible exact Kp.refl _) | (with_reducible apply Kp.drew) | (with_reducible apply Kp.drewN) | ((with_reducible apply Kp.setR); (focus (first | (with_reducible assumption) | (simp; done) | (simp; omega)))) | (with_reducible apply Kp.alloc) | ((with_reducible apply Kp.call); (with_reducible assumption)) | ((with_reducible apply Kp.app); (with_reducible assumption)))); done))))), KPN.out.trans (by (focus ((repeat (first | (with_reducible assumption) | (with_reducible exact Kp.refl _) | (with_reducible apply Kp.drew) | (with_reducible apply Kp.drewN) | ((with_reducible apply Kp.setR); (focus (first | (with_reducible assumption) | (simp; done) | (simp; omega)))) | (with_reducible apply Kp.alloc) | ((with_reducible apply Kp.call); (with_reducible assumption)) | ((with_reducible apply Kp.app); (with_reducible assumption)))); done)))⟩
          · have h := HRS.out; simp only [rs] at h; omega
          · have h := HPL.out
            rw [← h, show many - i = (many - (i + 1)) + 1 from by omega]
            simp [plug, Fm.on, pressM]
        case measure => simp [intOf]; omega
    · obtain rfl : i = many := by omega
      clear ha hrF hF hkn hkp hpl hrs
      go_wp2
      obtain ⟨p1, F1, k1, k2, k3⟩ := HA.out.zp.close HA.out.cell HA.out.mr HA.out.dis
      have hpe := HPL.out
      rw [Nat.sub_self] at hpe
      have hvr := hr0.cell 0
      rw [k1] at hvr
      injection hvr with hvr
      exact bodyPost_ret (v := .tuple #[]) (by simp [results, Try.results27, go_sem]) rfl ⟨p1, F1, rfl, by rw [← hvr] at hr0; exact hr0, by rw [← hpe]; exact k2, fun h => HRF.out (HA.out.sub _ ((k3 _).1 h)), fun x hx => HFB.out x (HA.out.sub x ((k3 x).1 hx)), HKN.out, HKP.out⟩
end Go.Proofs.Ytnpogfodopodoaa
