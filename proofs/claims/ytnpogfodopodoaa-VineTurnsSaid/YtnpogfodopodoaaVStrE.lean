/-
  vine.straight, with a count: what it answers. Conditions: as in VStr.
-/
import Derived.Test.YtnpogfodopodoaaVStr
namespace Go.Proofs.Ytnpogfodopodoaa
open Go.ChangeShapes Go.WideShapes Go.ChangeAt Go.RowKit
set_option linter.unusedVariables false
set_option linter.unusedSimpArgs false

set_option maxRecDepth 100000 in
set_option maxHeartbeats 8000000 in
theorem straight_even (T0 : MT Int) (base : World) (r0b g : Nat) (p0 : Option Addr) (F0 : List Nat) (I : World → List Int → Prop) (w : World) (hsz : T0.size ≤ 1000)
    (hcall : ∀ W ks key, I W ks → base.heap.size ≤ W.heap.size → ks.length < 1000 → Calls Try.prog 26 #[.int .i64 key, .pointer (some ⟨g, 0, none⟩)] W (fun e W' => e = .returned (.tuple #[]) ∧ I W' (ks ++ [key]) ∧ KT 72 51 base.heap.size W W'))
    (hset : ∀ W W' ks, I W ks → KN 72 51 W W' → I W' ks)
    (hr0 : BC w r0b 51 [.pointer p0]) (hm : MR w 72 eInt T0 p0 F0) (hrF : r0b ∉ F0) (hF : ∀ x ∈ F0, base.heap.size ≤ x) (hrb : base.heap.size ≤ r0b) (hi : I w []) (hk : Kp base w) :
    Calls Try.prog 24 #[.pointer (some ⟨r0b, 0, none⟩), .func (.func 26) #[] #[.pointer (some ⟨g, 0, none⟩)]] w (StPost 72 51 T0 base r0b I) := by
  have HS := hide (show StRel 72 51 T0 base r0b I (.int .i64 0) (.pointer (some ⟨r0b, 0, none⟩)) w from
    ⟨T0, F0, [], _, T0, p0, [], F0, [], rfl, rfl, At_.start (kf := fun _ => 0) 1 (hr0.cell 0) (hr0.frozen 0) hm, hrF, ⟨_, hr0⟩, hF, (fun f hf => by cases hf), hi, rfl, rfl, hk⟩)
  have HCALL := hide hcall
  have HSET := hide hset
  clear hr0 hm hrF hF hi hk hcall hset
  go_enter Try.func24, Try.ntmps24
  go_wp2
  go_loopw [5, 6] (StRel 72 51 T0 base r0b I) (fun _ q wr => mesAt 72 q wr)
  case atStart => exact HS.out
  case round =>
    obtain ⟨T, F, C, q, t, p, Fc, Ft, ks, rfl, rfl, ha, hrF, ⟨vr, hr0⟩, hF, hC, hi, hks, hkk, hkp⟩ := hrel
    have c0 := ha.cell
    have f0 := ha.fz
    have hm := ha.mr
    have hcl : C.length ≤ 1000 := by have := congrArg List.length hkk; simp [keysM_len] at this; omega
    have hkl : ks.length + (toldT t).length ≤ 1000 := by have := congrArg List.length hks; have := toldT_len T0; simp at *; omega
    have HA := hide ha
    have HRF := hide hrF
    have HR0 := hide hr0
    have HFB := hide hF
    have HC := hide hC
    have HI := hide hi
    have HKS := hide hks
    have HKK := hide hkk
    have HKP := hide hkp
    clear ha hrF hr0 hF hC hi hks hkk hkp
    cases p with
    | none =>
      obtain ⟨rfl, rfl⟩ := hm.of_none
      have HM := hide hm
      clear hm
      go_wp2
      go_ret
      obtain ⟨p1, F1, k1, k2, k3⟩ := HA.out.zp.close c0 HM.out (by simp)
      have hpl := plug_rt C .nil HC.out
      have hv : (C.map Fm.a).reverse = keysM id T0 := by have h := HKK.out; simpa [keysM] using h
      rw [hv] at hpl
      have hks : ks = toldT T0 := by have h := HKS.out; simpa [toldT] using h
      have hlen : C.length = T0.size := by rw [← keysM_len id T0, ← hv]; simp
      have hvr := HR0.out.cell 0
      rw [k1] at hvr
      injection hvr with hvr
      refine ⟨p1, F1, by rw [hlen]; rfl, by have h := HR0.out; rw [← hvr] at h; exact h, by rw [vineM, ← hpl]; exact k2, fun h => ?_, fun x hx => ?_, by rw [← hks]; exact HI.out, HKP.out⟩
      · exact HRF.out (HA.out.sub _ ((k3 _).1 h))
      · exact HFB.out x (HA.out.sub x ((k3 x).1 hx))
    | some ad =>
      obtain ⟨a, l, r, b, pl, pr, Fl, Fr, rfl, rfl, rfl, hb, g1, g2, g3, hl, hr2⟩ := hm.of_some
      have cl : wr.cell? ⟨b, 1, none⟩ = some (.pointer pl) := hb.link true
      have cr : wr.cell? ⟨b, 2, none⟩ = some (.pointer pr) := hb.link false
      have hms := mesAt_eq c0 hm
      have HMS := hide hms
      have HB := hide hb
      have HL := hide hl
      have HR2 := hide hr2
      have G1 := hide g1
      have G2 := hide g2
      have G3 := hide g3
      clear hm hms hb hl hr2 g1 g2 g3
      cases pl with
      | none =>
        obtain ⟨rfl, rfl⟩ := HL.out.of_none
        have HD := hide ((HA.out.down HB.out G1.out G2.out G3.out HL.out HR2.out).2 (by decide))
        have hmr := mesAt_eq cr HR2.out
        have HMR := hide hmr
        clear hmr
        go_wp2
        go_roundw
        case rel => exact ⟨_, _, _, _, _, _, _, _, ks, by simp only [List.length_cons]; go_num, rfl, HD.out, HRF.out, ⟨vr, HR0.out⟩, HFB.out, (fun f hf => by rcases List.mem_cons.1 hf with rfl | hf; exact ⟨rfl, rfl⟩; exact HC.out f hf), HI.out, by have h := HKS.out; simpa [toldT, preT] using h, by have h := HKK.out; simpa [keysM] using h, HKP.out⟩
        case measure => rw [HMR.out, HMS.out]; simp only [MT.size, toldT, preT, List.nil_append]; omega
      | some al =>
        obtain ⟨c, x, y, b2, px, py, Fx, Fy, rfl, rfl, rfl, hb2, i1, i2, i3, hx, hy⟩ := HL.out.of_some
        have k0 : wr.cell? ⟨b2, 0, none⟩ = some (.int .i64 c) := hb2.cell 0
        have hkl' : ks.length < 1000 := by simp [toldT, preT] at hkl; omega
        have HB2 := hide hb2
        have I1 := hide i1
        have I2 := hide i2
        have I3 := hide i3
        have HX := hide hx
        have HY := hide hy
        have HCC := hide (HCALL.out wr ks c HI.out HKP.out.size hkl')
        clear hb2 i1 i2 i3 hx hy
        go_wp2_with (go_at_call 26; ((with_reducible refine HCC.out.mono ?_); rintro e w5 ⟨rfl, hi5, hk5⟩))
        have HA5 := hide (HA.out.kt hk5 HR0.out)
        have hb5 := hk5.1 _ _ _ (.inl rfl) HB.out
        have hb25 := hk5.1 _ _ _ (.inl rfl) HB2.out
        have hr5 := hk5.1 _ _ _ (.inr rfl) HR0.out
        have HX5 := hide (HX.out.kt hk5)
        have HY5 := hide (HY.out.kt hk5)
        have HR5 := hide (HR2.out.kt hk5)
        have KP5 := hide (hk5.2 base (Nat.le_refl _) HKP.out)
        have HI5 := hide hi5
        have HRA : Hid (At_ (((w5.setCell ⟨b, 1, none⟩ (.pointer py)).setCell ⟨b2, 2, none⟩ (.pointer (some ⟨b, 0, none⟩))).setCell q (.pointer (some ⟨b2, 0, none⟩))) 72 eInt (fun _ => 0) ⟨r0b, 0, none⟩ (plug C (.node c x (.node a y r))) F 1 C q (.node c x (.node a y r)) (some ⟨b2, 0, none⟩) Fc (b2 :: (Fx ++ (b :: (Fy ++ Fr))))) := hide (HA5.out.rotR HRF.out hb5 hb25 G1.out G2.out G3.out I1.out I2.out I3.out HX5.out HY5.out HR5.out)
        have HR05 := hide hr5
        have hbq : q.block ≠ b := HA5.out.qblk HRF.out (by simp)
        have hb2q : q.block ≠ b2 := HA5.out.qblk HRF.out (by simp)
        have hbF : b ∈ F := HA5.out.sub b (.inl (by simp))
        have hb2F : b2 ∈ F := HA5.out.sub b2 (.inl (by simp))
        have hbr : b ≠ r0b := fun e => HRF.out (by rw [← e]; exact hbF)
        have hb2r : b2 ≠ r0b := fun e => HRF.out (by rw [← e]; exact hb2F)
        have hbb : b ≠ b2 := fun e => G1.out (by rw [e]; simp)
        have KN5 : Hid (KN 72 51 w5 (((w5.setCell ⟨b, 1, none⟩ (.pointer py)).setCell ⟨b2, 2, none⟩ (.pointer (some ⟨b, 0, none⟩))).setCell q (.pointer (some ⟨b2, 0, none⟩)))) := hide (by
          refine Kf.set (Kf.set (Kf.set (Kf.refl _ _) (.inl ⟨_, _, .inl rfl, hb5⟩)) (.inl ⟨_, _, .inl rfl, hb25⟩)) (.inl ?_)
          rcases HA5.out.zp.at_ with e | hq
          · rw [e]; exact ⟨_, _, .inr rfl, hr5⟩
          · obtain ⟨cs, hb⟩ := HA5.out.zp.bc _ hq
            exact ⟨_, cs, .inl rfl, hb⟩)
        have KPN : Hid (Kp base (((w5.setCell ⟨b, 1, none⟩ (.pointer py)).setCell ⟨b2, 2, none⟩ (.pointer (some ⟨b, 0, none⟩))).setCell q (.pointer (some ⟨b2, 0, none⟩)))) := hide (by
          refine Kp.set (Kp.set (Kp.set KP5.out (HFB.out b hbF) _) (HFB.out b2 hb2F) _) ?_ _
          rcases HA5.out.zp.at_ with e | hq
          · rw [e]; exact hrb
          · exact HFB.out _ (HA5.out.sub _ (.inr hq)))
        have RB : Hid (∃ v, BC (((w5.setCell ⟨b, 1, none⟩ (.pointer py)).setCell ⟨b2, 2, none⟩ (.pointer (some ⟨b, 0, none⟩))).setCell q (.pointer (some ⟨b2, 0, none⟩))) r0b 51 [v]) := hide (by
          have h1 := (hr5.far (p := ⟨b, 1, none⟩) (u := .pointer py) (fun e => hbr e.symm)).far (p := ⟨b2, 2, none⟩) (u := .pointer (some ⟨b, 0, none⟩)) (fun e => hb2r e.symm)
          rcases HA5.out.zp.at_ with e | hq
          · subst e; exact ⟨_, h1.set⟩
          · exact ⟨_, h1.far (fun e => HRF.out (HA5.out.sub _ (.inr (by rw [e]; exact hq))))⟩)
        have c5 := HA5.out.cell
        have f5 := HA5.out.fz
        have l1 : w5.cell? ⟨b, 1, none⟩ = some (.pointer (some ⟨b2, 0, none⟩)) := hb5.link true
        have l2 : w5.cell? ⟨b2, 2, none⟩ = some (.pointer py) := hb25.link false
        have f1 := hb5.frozen 1
        have f2 := hb25.frozen 2
        have n1 : ¬ b = b2 := hbb
        have n2 : ¬ b2 = b := fun e => hbb e.symm
        have q1 : ∀ (j : Nat) (u : Value) (X : World), (X.setCell ⟨b, j, none⟩ u).cell? q = X.cell? q := fun j u X => World.cell?_setCell_other _ _ _ _ (fun e => hbq (by rw [← e]))
        have q2 : ∀ (j : Nat) (u : Value) (X : World), (X.setCell ⟨b2, j, none⟩ u).cell? q = X.cell? q := fun j u X => World.cell?_setCell_other _ _ _ _ (fun e => hb2q (by rw [← e]))
        clear hi5 hk5 hr5 hb5 hb25 hbq hb2q hbF hb2F hbr hb2r hbb cl cr c0 f0 k0
        go_wp2_with fail
        go_region_law (fail)
        all_goals
          go_wp2
          go_roundw
          case rel =>
            obtain ⟨v9, hv9⟩ := RB.out
            refine ⟨_, F, C, q, _, _, Fc, _, ks ++ [c], rfl, rfl, HRA.out.kp (by (focus ((repeat (first | (with_reducible assumption) | (with_reducible exact Kp.refl _) | (with_reducible apply Kp.drew) | (with_reducible apply Kp.drewN) | ((with_reducible apply Kp.setR); (focus (first | (with_reducible assumption) | (simp; done) | (simp; omega)))) | (with_reducible apply Kp.alloc) | ((with_reducible apply Kp.call); (with_reducible assumption)) | ((with_reducible apply Kp.app); (with_reducible assumption)))); done))) hv9.lt, HRF.out, ⟨v9, hv9.kp (by (focus ((repeat (first | (with_reducible assumption) | (with_reducible exact Kp.refl _) | (with_reducible apply Kp.drew) | (with_reducible apply Kp.drewN) | ((with_reducible apply Kp.setR); (focus (first | (with_reducible assumption) | (simp; done) | (simp; omega)))) | (with_reducible apply Kp.alloc) | ((with_reducible apply Kp.call); (with_reducible assumption)) | ((with_reducible apply Kp.app); (with_reducible assumption)))); done)))⟩, HFB.out, HC.out, HSET.out _ _ _ HI5.out (Kf.on KN5.out (by (focus ((repeat (first | (with_reducible assumption) | (with_reducible exact Kp.refl _) | (with_reducible apply Kp.drew) | (with_reducible apply Kp.drewN) | ((with_reducible apply Kp.setR); (focus (first | (with_reducible assumption) | (simp; done) | (simp; omega)))) | (with_reducible apply Kp.alloc) | ((with_reducible apply Kp.call); (with_reducible assumption)) | ((with_reducible apply Kp.app); (with_reducible assumption)))); done)))), ?_, ?_, KPN.out.trans (by (focus ((repeat (first | (with_reducible assumption) | (with_reducible exact Kp.refl _) | (with_reducible apply Kp.drew) | (with_reducible apply Kp.drewN) | ((with_reducible apply Kp.setR); (focus (first | (with_reducible assumption) | (simp; done) | (simp; omega)))) | (with_reducible apply Kp.alloc) | ((with_reducible apply Kp.call); (with_reducible assumption)) | ((with_reducible apply Kp.app); (with_reducible assumption)))); done)))⟩
            · have h := HKS.out
              rw [toldT_rot] at h
              rw [← h]; simp
            · have h := HKK.out
              rw [← h]; simp [keysM]
          case measure =>
            obtain ⟨v9, hv9⟩ := RB.out
            refine Nat.lt_of_le_of_lt (Nat.le_of_eq (mesAt_eq (At_.kp HRA.out (by (focus ((repeat (first | (with_reducible assumption) | (with_reducible exact Kp.refl _) | (with_reducible apply Kp.drew) | (with_reducible apply Kp.drewN) | ((with_reducible apply Kp.setR); (focus (first | (with_reducible assumption) | (simp; done) | (simp; omega)))) | (with_reducible apply Kp.alloc) | ((with_reducible apply Kp.call); (with_reducible assumption)) | ((with_reducible apply Kp.app); (with_reducible assumption)))); done))) hv9.lt).cell (At_.kp HRA.out (by (focus ((repeat (first | (with_reducible assumption) | (with_reducible exact Kp.refl _) | (with_reducible apply Kp.drew) | (with_reducible apply Kp.drewN) | ((with_reducible apply Kp.setR); (focus (first | (with_reducible assumption) | (simp; done) | (simp; omega)))) | (with_reducible apply Kp.alloc) | ((with_reducible apply Kp.call); (with_reducible assumption)) | ((with_reducible apply Kp.app); (with_reducible assumption)))); done))) hv9.lt).mr)) ?_
            rw [HMS.out, toldT_rot]
            simp only [MT.size, List.length_cons]
            omega
end Go.Proofs.Ytnpogfodopodoaa
