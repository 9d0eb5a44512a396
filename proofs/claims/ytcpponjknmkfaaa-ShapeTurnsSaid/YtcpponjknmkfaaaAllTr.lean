/-
  shape.trees: what it answers. Conditions: no more than seven nodes.
-/
import Derived.Test.YtcpponjknmkfaaaAllL
import Derived.Test.YtcpponjknmkfaaaConcatS
import Derived.Test.YtcpponjknmkfaaaOws
import Derived.Test.YtcpponjknmkfaaaOutVar
namespace Go.Proofs.Ytcpponjknmkfaaa
open Go.ChangeShapes Go.WideShapes Go.ChangeAt Go.RowKit
set_option linter.unusedVariables false
set_option linter.unusedSimpArgs false

theorem RDS.newT {α : Type} {w : World} {E : Enc α} {a b c : List α} {va vb vc : Value} {t : TypeId} {g : Nat} (hg : w.heap.size = g) (ha : RD w E va a) (hb : RD w E vb b) (hc : RD w E vc c) : RDS (w.alloc (.cells #[va, vb, vc] t)) E (.slice (some ⟨g, 0, none⟩) 3 3) [a, b, c] := by
  subst hg
  have hk : Kp w (w.alloc (.cells #[va, vb, vc] t)) := (Kp.refl w).alloc
  refine ⟨_, _, rfl, Nat.le_refl _, by simp [maxLen], fun _ => ⟨w.heap.size, 0, rfl, by simp, fun k h => ?_⟩⟩
  have hc' := fun i => cell_of_row _ _ i _ t (0, 0) (heap_alloc_new w (.cells #[va, vb, vc] t))
  match k, h with
  | 0, _ => exact ⟨va, hc' 0, ha.kp hk⟩
  | 1, _ => exact ⟨vb, hc' 1, hb.kp hk⟩
  | 2, _ => exact ⟨vc, hc' 2, hc.kp hk⟩
theorem fm_step {α β : Type} {f : α → List β} {l : List α} {j : Nat} (h : j < l.length) : (l.take (j + 1)).flatMap f = (l.take j).flatMap f ++ f l[j] := by
  rw [List.take_succ_eq_append_getElem h, List.flatMap_append]; simp
theorem fm_le {α β : Type} {f : α → List β} {l : List α} {j : Nat} : ((l.take j).flatMap f).length ≤ (l.flatMap f).length := by
  have : l.flatMap f = (l.take j).flatMap f ++ (l.drop j).flatMap f := by rw [← List.flatMap_append, List.take_append_drop]
  rw [this, List.length_append]; omega
theorem mp_step {α β : Type} {f : α → β} {l : List α} {j : Nat} (h : j < l.length) : (l.take (j + 1)).map f = (l.take j).map f ++ [f l[j]] := by
  rw [List.take_succ_eq_append_getElem h, List.map_append]; rfl
def RetTs (ls : List (List IP)) (w : World) (e : Ending) (w' : World) : Prop := ∃ v, e = .returned v ∧ OWS w' w.heap.size 22 41 ePair v ls ∧ Kp w w'
def TsRel1 (L : List Nat) (G : Nat → List (List IP)) (w : World) (ov iv : Value) (wr : World) : Prop := ∃ r : Nat, r ≤ L.length ∧ iv = .int .i64 (r : Int) ∧ OWS wr w.heap.size 22 41 ePair ov ((L.take r).flatMap G) ∧ Kp w wr
/-- The slice lies in no block from lo on, ahead of hi. -/
def Ap (lo hi : Nat) (v : Value) : Prop := ∀ k, v.ownBlock = some k → k < lo ∨ hi ≤ k
theorem OWS.kf {α : Type} {w w' : World} {B : Nat} {st e : TypeId} {E : Enc α} {v : Value} {ls : List (List α)} {F : Nat → Prop} (h : OWS w B st e E v ls) (hk : Kf F w w') (hF : ∀ o, B ≤ o → ¬ F o) : OWS w' B st e E v ls := by
  obtain ⟨vs, h1, h2, h3⟩ := h
  exact ⟨vs, h1.kf hk (fun k hk' => hF k (h1.hi k hk')), h2, fun k a b => (h3 k a b).kf hk (fun q hq => hF q ((h3 k a b).hi q hq))⟩
/-- An element: its value, which the row holds; what it reads as. -/
theorem OWS.at_ {α : Type} {w : World} {B : Nat} {st e : TypeId} {E : Enc α} {A : Option Addr} {n c : Nat} {ls : List (List α)} (h : OWS w B st e E (.slice A n c) ls) {k : Nat} (hk : k < ls.length) :
    ∃ b o u, A = some ⟨b, o, none⟩ ∧ w.cell? ⟨b, o + k, none⟩ = some u ∧ OW w B e E u ls[k] := by
  obtain ⟨vs, h1, h2, h3⟩ := h
  have hk2 : k < vs.length := by omega
  obtain ⟨b, o, rfl, _, hc⟩ := h1.rd.at_ hk2
  refine ⟨b, o, vs[k].1, rfl, ?_, h3 k hk2 hk⟩
  have := hc 0 (by decide)
  simpa [eVal] using this
def TsRel2 (P A : List (List IP)) (F : List IP → List (List IP)) (lo1 : Nat) (w W1 : World) (ov iv : Value) (wr : World) : Prop := ∃ j : Nat, j ≤ A.length ∧ iv = .int .i64 (j : Int) ∧ OWS wr w.heap.size 22 41 ePair ov (P ++ (A.take j).flatMap F) ∧ Kp w wr ∧ Kf (fun o => o < lo1) W1 wr ∧ Ap lo1 W1.heap.size ov
def TsRel3 (Q B : List (List IP)) (f : List IP → List IP) (lo1 lo2 : Nat) (w W1 W2 : World) (ov iv : Value) (wr : World) : Prop := ∃ k : Nat, k ≤ B.length ∧ iv = .int .i64 (k : Int) ∧ OWS wr w.heap.size 22 41 ePair ov (Q ++ (B.take k).map f) ∧ Kp w wr ∧ Kf (fun o => o < lo1) W1 wr ∧ Ap lo1 W1.heap.size ov ∧ Kf (fun o => o < lo2) W2 wr ∧ Ap lo2 W2.heap.size ov
theorem info_spots1 : (Try.prog.info? 22).map (fun i => (i.zero, i.size, i.bytes)) = some (some (.slice none 0 0), 1, 24) := by kernel_rfl
theorem row_spots1 : Row Try.prog 54 22 eVal 24 := row_of info_spots1 Try.underlying54 rfl rfl (by decide)
theorem ows_one (w : World) : OWS (w.alloc (.cells #[.slice none 0 0] 22)) w.heap.size 22 41 ePair (.slice (some ⟨w.heap.size, 0, none⟩) 1 1) [[]] :=
  ⟨[⟨.slice none 0 0, rfl⟩], ⟨rfl, .inr ⟨w.heap.size, 1, #[.slice none 0 0], rfl, Nat.le_refl _, heap_alloc_new w _, Nat.le_refl _, by unfold maxLen; omega, rfl, by simp [eVal]⟩⟩, rfl, fun k h1 h2 => by
    have : k = 0 := by simp at h1; omega
    subst this
    exact OW.nil⟩
set_option maxRecDepth 100000 in
set_option maxHeartbeats 8000000 in
theorem trees_any (m : Nat) : ∀ (a n : Nat) (d : Int) (w : World), m ≤ 7 → n ≤ m → a + n ≤ 1000 → 0 ≤ d → d + m ≤ 1000 → Calls Try.prog 43 #[.int .i64 (a : Int), .int .i64 (n : Int), .int .i64 d] w (RetTs (treesS m a n d) w) := by
  induction m with
  | zero =>
    intro a n d w hm hn ha hd hdm
    obtain rfl : n = 0 := by omega
    have HO := hide (ows_one w)
    go_enter Try.func43, Try.ntmps43
    go_wp2
    go_ret
    exact ⟨_, rfl, HO.out, (Kp.refl _).alloc⟩
  | succ m ih =>
    intro a n d w hm hn ha hd hdm
    have HIH := hide ih
    clear ih
    by_cases h0 : n = 0
    · subst h0
      have HO := hide (ows_one w)
      have HT : Hid (treesS (m + 1) a 0 d = [[]]) := hide (by rw [treesS, if_pos rfl])
      go_enter Try.func43, Try.ntmps43
      go_wp2
      go_ret
      exact ⟨_, rfl, by rw [HT.out]; exact HO.out, (Kp.refl _).alloc⟩
    · have d1 : ((n : Int) == 0) = false := beq_eq_false_iff_ne.2 (by omega)
      obtain ⟨L, hL⟩ : ∃ L, L = List.range n := ⟨_, rfl⟩
      have hLl : L.length = n := by rw [hL]; simp
      have HLa : Hid (∀ r (h : r < L.length), L[r] = r) := hide (by subst hL; intro r h; simp)
      obtain ⟨G, hG⟩ : ∃ G, G = fun r => (treesS m a r (d + 1)).flatMap fun x => (treesS m (a + r + 1) (n - r - 1) (d + 1)).map fun y => x ++ [(((a + r : Nat) : Int), d)] ++ y := ⟨_, rfl⟩
      have HG := hide (fun r => congrFun hG r)
      have hT : treesS (m + 1) a n d = L.flatMap G := by rw [treesS, if_neg h0, hL, hG]
      have hN : (L.flatMap G).length ≤ 1000 := by rw [← hT, treesS_len]; exact catF_le _ (by omega) _ (by omega)
      have HT := hide hT
      have HN := hide hN
      have HLL := hide hLl
      have HH0 := hide h0
      clear hT hN hL hLl hG h0
      go_enter Try.func43, Try.ntmps43
      go_wp2_with fail
      clear d1
      go_loopw [7, 17] (TsRel1 L G w) (fun _ r _ => n - (intOf r).toNat)
      case atStart => exact ⟨0, by omega, rfl, OWS.nil, Kp.refl _⟩
      case round =>
        obtain ⟨r, hr, rfl, hows, hkp⟩ := hrel
        rw [HLL.out] at hr
        have HO := hide hows
        have HK := hide hkp
        by_cases hlt : r < n
        · have hrL : r < L.length := by rw [HLL.out]; exact hlt
          have hst := fm_step (f := G) hrL
          rw [HLa.out r hrL] at hst
          have hle := fm_le (f := G) (l := L) (j := r + 1)
          have hN := HN.out
          rw [hst, List.length_append] at hle
          have hGr := HG.out r
          have hal := treesS_inner m a r (d + 1) (by omega)
          have hbl := treesS_inner m (a + r + 1) (n - r - 1) (d + 1) (by omega)
          have hca := treesS_len m a r (d + 1)
          have hcb := treesS_len m (a + r + 1) (n - r - 1) (d + 1)
          have hcm := catF_le m (by omega)
          obtain ⟨ow1, how1⟩ : ∃ x : Nat, x = a + r + 1 := ⟨_, rfl⟩
          obtain ⟨on1, hon1⟩ : ∃ x : Nat, x = n - r - 1 := ⟨_, rfl⟩
          obtain ⟨d1, hd1⟩ : ∃ x : Int, x = d + 1 := ⟨_, rfl⟩
          have C1 := hide (fun W => HIH.out a r d1 W (by omega) (by omega) (by omega) (by omega) (by omega))
          have C2 := hide (fun W => HIH.out ow1 on1 d1 W (by omega) (by omega) (by omega) (by omega) (by omega))
          rw [← how1, ← hon1, ← hd1] at hGr hbl hcb
          rw [← hd1] at hal hca
          have s1 : IntKind.i64.wrap (d + 1) = d1 := by rw [IntWalk.i64_in _ (by omega)]; omega
          obtain ⟨ar, har⟩ : ∃ x : Nat, x = a + r := ⟨_, rfl⟩
          have s2 : IntKind.i64.wrap ((a : Int) + (r : Int)) = (ar : Int) := by rw [IntWalk.i64_in _ (by omega)]; omega
          have s3 : IntKind.i64.wrap ((ar : Int) + 1) = (ow1 : Int) := by rw [IntWalk.i64_in _ (by omega)]; omega
          obtain ⟨nr, hnr⟩ : ∃ x : Nat, x = n - r := ⟨_, rfl⟩
          have s4 : IntKind.i64.wrap ((n : Int) - (r : Int)) = (nr : Int) := by rw [IntWalk.i64_in _ (by omega)]; omega
          have s5 : IntKind.i64.wrap ((nr : Int) - 1) = (on1 : Int) := by rw [IntWalk.i64_in _ (by omega)]; omega
          obtain ⟨r1, hr1⟩ : ∃ x : Nat, x = r + 1 := ⟨_, rfl⟩
          have s6 : IntKind.i64.wrap ((r : Int) + 1) = (r1 : Int) := by rw [IntWalk.i64_in _ (by omega)]; omega
          have d2 : decide (r < n) = true := by simp [hlt]
          have S := hide (And.intro s1 (And.intro s2 (And.intro s3 (And.intro s4 (And.intro s5 s6)))))
          rw [← har] at hGr
          obtain ⟨A, hA⟩ : ∃ x, x = treesS m a r d1 := ⟨_, rfl⟩
          obtain ⟨Bb, hB⟩ : ∃ x, x = treesS m ow1 on1 d1 := ⟨_, rfl⟩
          rw [← hA] at C1 hGr hal hca
          rw [← hB] at C2 hGr hbl hcb
          obtain ⟨F, hF⟩ : ∃ F, F = fun x => Bb.map fun y => x ++ [((ar : Int), d)] ++ y := ⟨_, rfl⟩
          have HF := hide (fun x => congrFun hF x)
          rw [← hF] at hGr
          rw [hGr] at hle hst
          obtain ⟨P, hP⟩ : ∃ P, P = (L.take r).flatMap G := ⟨_, rfl⟩
          rw [← hP] at hle hst HO
          have HST := hide hst
          have HAL := hide hal
          have HBL := hide hbl
          have hA1 : A.length ≤ 1000 := by rw [hca]; exact hcm _ (by omega)
          have hB1 : Bb.length ≤ 1000 := by rw [hcb]; exact hcm _ (by omega)
          have HLE : Hid (P.length + (A.flatMap F).length ≤ 1000) := hide (by omega)
          have HR1 := hide hr1
          have hon9 : on1 ≤ 1000 := by omega
          clear hows hkp hst hle hN hGr hal hbl hca hcb hcm how1 hon1 hd1 har hnr hr1 hA hB hF hP s2 s3 s4 s5 s6
          go_wp2_with fail
          with_reducible refine (C1.out _).mono ?_
          rintro e W1 ⟨va, rfl, hoa, hka⟩
          have HOA := hide hoa
          obtain ⟨A1, c1, rfl, hc1, hm1⟩ := (hoa.rds (by unfold maxLen; omega)).shape
          have HO1 := hide (HO.out.kp hka)
          have HKW1 := hide (HK.out.trans hka)
          obtain ⟨lo1, hlo1⟩ : ∃ x, x = wr.heap.size := ⟨_, rfl⟩
          have HLO1 : Hid (lo1 ≤ W1.heap.size) := hide (by rw [hlo1]; exact hka.size)
          have HAP1 : Hid (Ap lo1 W1.heap.size u7) := hide (fun k hk => by obtain ⟨vs, h1, _⟩ := HO.out; exact .inl (by rw [hlo1]; exact (h1.lt k hk).2))
          rw [← hlo1] at HOA
          clear hoa hka s1 hlo1
          go_wp2_with fail
          go_loopw [7, 26] (TsRel2 P A F lo1 w W1) (fun _ j _ => A.length - (intOf j).toNat)
          case atStart => exact ⟨0, by omega, rfl, by rw [List.take_zero, List.flatMap_nil, List.append_nil]; exact HO1.out, HKW1.out, Kf.refl _ _, HAP1.out⟩
          case round =>
            obtain ⟨j, hj, rfl, hows, hkp, hkf, hap⟩ := hrel
            have HO2 := hide hows
            have HK2 := hide hkp
            have HKF2 := hide hkf
            have HAP2 := hide hap
            by_cases hja : j < A.length
            · have d3 : decide (j < A.length) = true := by simp [hja]
              obtain ⟨ba, oa, ux, rfl, cx, hux⟩ := HOA.out.at_ (k := j) hja
              have cx2 := hkf.cell (p := ⟨ba, oa + j, none⟩) (by have := HOA.out; obtain ⟨vs, h1, _⟩ := this; have := h1.hi ba (by simp [Value.ownBlock]); simp; omega) cx
              have hxl := HAL.out A[j] (List.getElem_mem hja)
              have hst2 := fm_step (f := F) hja
              have hle2 := fm_le (f := F) (l := A) (j := j + 1)
              rw [hst2, List.length_append] at hle2
              have hFx := HF.out A[j]
              obtain ⟨X, hX⟩ : ∃ x, x = A[j] := ⟨_, rfl⟩
              rw [← hX] at hxl hst2 hle2 hFx hux
              obtain ⟨f, hf⟩ : ∃ f, f = fun y => X ++ [((ar : Int), d)] ++ y := ⟨_, rfl⟩
              have Hf := hide (fun y => congrFun hf y)
              rw [← hf] at hFx
              rw [hFx] at hst2 hle2
              rw [List.length_map] at hle2
              obtain ⟨Q, hQ⟩ : ∃ Q, Q = P ++ (A.take j).flatMap F := ⟨_, rfl⟩
              have hQl : Q.length + Bb.length ≤ 1000 := by have := HLE.out; rw [hQ, List.length_append]; omega
              have HQS : Hid (P ++ (A.take (j + 1)).flatMap F = Q ++ Bb.map f) := hide (by rw [hst2, hQ, List.append_assoc])
              rw [← hQ] at HO2
              have HQL := hide hQl
              have HUX := hide hux
              obtain ⟨j1, hj1⟩ : ∃ x : Nat, x = j + 1 := ⟨_, rfl⟩
              have s7 : IntKind.i64.wrap ((j : Int) + 1) = (j1 : Int) := by rw [IntWalk.i64_in _ (by omega)]; omega
              have HJ1 := hide hj1
              obtain ⟨A4, c4, rfl, hc4, hm4⟩ := hux.rd.shape
              have hxl2 : X.length ≤ 7 := by omega
              have HXL := hide hxl2
              obtain ⟨s1, s2, s3, s4, s5, s6⟩ := S.out
              clear hows hkp hxl hst2 hle2 hFx hX hf hQ hQl hux hj1 hxl2 hkf hap cx
              go_wp2_with fail
              with_reducible refine (C2.out _).mono ?_
              rintro e W2 ⟨vb, rfl, hob, hkb⟩
              have HOB := hide hob
              obtain ⟨A2, c2, rfl, hc2, hm2⟩ := (hob.rds (by unfold maxLen; omega)).shape
              have HO3 := hide (HO2.out.kp hkb)
              have HKW2 := hide (HK2.out.trans hkb)
              have HKF3 := hide (HKF2.out.on hkb)
              obtain ⟨lo2, hlo2⟩ : ∃ x, x = wr.heap.size := ⟨_, rfl⟩
              have HLO2 : Hid (lo2 ≤ W2.heap.size) := hide (by rw [hlo2]; exact hkb.size)
              have HAP3 : Hid (Ap lo2 W2.heap.size u7) := hide (fun k hk => by obtain ⟨vs, h1, _⟩ := HO2.out; exact .inl (by rw [hlo2]; exact (h1.lt k hk).2))
              rw [← hlo2] at HOB
              clear hob hkb cx2 s3 s4 s5 s6 hlo2
              go_wp2_with fail
              go_loopw [7, 42] (TsRel3 Q Bb f lo1 lo2 w W1 W2) (fun _ k _ => Bb.length - (intOf k).toNat)
              case atStart => exact ⟨0, by omega, rfl, by rw [List.take_zero, List.map_nil, List.append_nil]; exact HO3.out, HKW2.out, HKF3.out, HAP2.out, Kf.refl _ _, HAP3.out⟩
              case round =>
                obtain ⟨k, hk, rfl, hows, hkp, hkf1, hap1, hkf2, hap2⟩ := hrel
                have HK3 := hide hkp
                have HF1 := hide hkf1
                have HP1 := hide hap1
                have HF2 := hide hkf2
                have HP2 := hide hap2
                by_cases hkb : k < Bb.length
                · have d4 : decide (k < Bb.length) = true := by simp [hkb]
                  obtain ⟨bb, ob, uy, rfl, cy0, huy0⟩ := HOB.out.at_ (k := k) hkb
                  have cy := hkf2.cell (p := ⟨bb, ob + k, none⟩) (by have := HOB.out; obtain ⟨vs, h1, _⟩ := this; have := h1.hi bb (by simp [Value.ownBlock]); simp; omega) cy0
                  have huy := huy0.kf hkf2 (fun q hq => by have := huy0.hi q hq; simp; omega)
                  have hux3 := HUX.out.kf hkf1 (fun q hq => by have := HUX.out.hi q hq; simp; omega)
                  have hyl := HBL.out Bb[k] (List.getElem_mem hkb)
                  have hst3 := mp_step (f := f) hkb
                  have hfy := Hf.out Bb[k]
                  obtain ⟨Y, hY⟩ : ∃ x, x = Bb[k] := ⟨_, rfl⟩
                  rw [← hY] at hyl hst3 hfy huy
                  rw [hfy] at hst3
                  obtain ⟨R, hR⟩ : ∃ R, R = Q ++ (Bb.take k).map f := ⟨_, rfl⟩
                  have hRl : R.length = Q.length + k := by rw [hR, List.length_append, List.length_map, List.length_take]; omega
                  rw [← hR] at hows
                  have HRS : Hid (Q ++ (Bb.take (k + 1)).map f = R ++ [X ++ [((ar : Int), d)] ++ Y]) := hide (by rw [hst3, hR]; simp only [List.append_assoc])
                  obtain ⟨A5, c5, rfl, hc5, hm5⟩ := huy.rd.shape
                  obtain ⟨vs, hv, hvl, hin⟩ := hows
                  obtain ⟨A6, c6, rfl, _, _⟩ := hv.rd.shape
                  have hvk : vs.length ≤ 1000 := by have := HQL.out; omega
                  have HV := hide hv
                  have HVL := hide hvl
                  have HIN := hide hin
                  have HY1 := hide huy.rd
                  have HX3 := hide hux3.rd
                  obtain ⟨k1, hk1⟩ : ∃ x : Nat, x = k + 1 := ⟨_, rfl⟩
                  have s8 : IntKind.i64.wrap ((k : Int) + 1) = (k1 : Int) := by rw [IntWalk.i64_in _ (by omega)]; omega
                  have HK1 := hide hk1
                  have hyl2 : Y.length ≤ 1000 := by omega
                  clear hkp hyl hst3 hfy hY hR hRl huy hux3 hv hvl hin hk1 hkf1 hap1 hkf2 hap2 huy0 cy0
                  go_wp2_with fail
                  have hka3 : Kp wr (wr.alloc (.cells #[.int .i64 (ar : Int), .int .i64 d] 41)) := (Kp.refl _).alloc
                  have hd3 := RDS.newT (w := wr.alloc (.cells #[.int .i64 (ar : Int), .int .i64 d] 41)) (t := 22) (g := wr.heap.size + 1) (by simp) (HX3.out.kp hka3) (RD.new1 (w := wr) (E := ePair) (t := 41) (cs := #[.int .i64 (ar : Int), .int .i64 d]) ((ar : Int), d) rfl) (HY1.out.kp hka3)
                  refine (concat_Spot [X, [((ar : Int), d)], Y] _ _ hd3 (by have := HXL.out; simp; omega)).mono ?_
                  rintro e w3 ⟨v3, rfl, ho3, hb3⟩
                  have k3 : Kp wr w3 := (hka3.alloc (o := .cells #[.slice A4 X.length c4, .slice (some ⟨wr.heap.size, 0, none⟩) 1 1, .slice A5 Y.length c5] 22)).trans (Kp.of hb3)
                  have hsz3 : w.heap.size ≤ ((wr.alloc (.cells #[.int .i64 (ar : Int), .int .i64 d] 41)).alloc (.cells #[.slice A4 X.length c4, .slice (some ⟨wr.heap.size, 0, none⟩) 1 1, .slice A5 Y.length c5] 22)).heap.size := by
                    have := HK3.out.size
                    simp; omega
                  have HO7 := hide (ho3.more hsz3)
                  have HK7 := hide k3
                  have HSZ7 : Hid (w.heap.size ≤ w3.heap.size) := hide (Nat.le_trans HK3.out.size k3.size)
                  obtain ⟨A7, N7, c7, rfl⟩ := ho3.rd.slice
                  have HM1 : Hid ((vs.length + [(⟨.slice A7 N7 c7, slice_one A7 N7 c7⟩ : V1)].length) * 24 ≤ 140737488355328) := hide (by simp; omega)
                  have HM2 : Hid (vs.length + [(⟨.slice A7 N7 c7, slice_one A7 N7 c7⟩ : V1)].length ≤ maxLen) := hide (by simp [maxLen]; omega)
                  clear hka3 hd3 ho3 hb3 k3 hsz3 cy
                  go_wp2_with (at_builtin; (with_reducible refine list_app (B := w.heap.size) (l := vs) (m := [(⟨.slice A7 N7 c7, slice_one A7 N7 c7⟩ : V1)]) row_spots1 (.slice A6 vs.length c6) ?_ (.tmp 46) (.tmp 57) ?_ ?_ ?_ ?_ HM1.out HM2.out ?_ ?_); (with_reducible rfl); (with_reducible rfl); rfl; (exact (HV.out.kp HK7.out).alloc _); (show RD _ _ (.slice (some ⟨_, 0, none⟩) 1 1) _; exact RD.new1e _ (by simp) rfl); (have := HSZ7.out; simp; omega); intro v4 w4 ho4 hg4 hat4)
                  go_roundw
                  all_goals have hk1 := HK1.out
                  case rel =>
                    have kka : Kp w3 (w3.alloc (.cells #[.slice A7 N7 c7] 22)) := (Kp.refl _).alloc
                    have h1 := OWS.app (u := ⟨.slice A7 N7 c7, slice_one A7 N7 c7⟩) (l := [X, [((ar : Int), d)], Y].flatten) ((HV.out.kp HK7.out).kp kka) HVL.out (fun k a b => ((HIN.out k a b).kp HK7.out).kp kka) (by decide) (HO7.out.kp kka) ho4 hg4
                    have e9 : [X, [((ar : Int), d)], Y].flatten = X ++ [((ar : Int), d)] ++ Y := by simp
                    rw [e9, ← HRS.out, ← hk1] at h1
                    have hs3 := HK7.out.size
                    have z1 := HF1.out.size
                    have z2 := HF2.out.size
                    have hapn : ∀ lo hi, hi ≤ wr.heap.size → Ap lo hi (.slice A6 vs.length c6) → Ap lo hi v4 := fun lo hi hh ha q hq => by
                      rcases hat4 with e4 | e4
                      · rw [e4] at hq; exact ha q hq
                      · rw [e4] at hq; injection hq with hq; subst hq; right; simp; omega
                    exact ⟨k1, by omega, rfl, h1, Kp.app hg4 ((HK3.out.trans HK7.out).alloc) HV.out.hi, ((HF1.out.on HK7.out).on kka).app hg4 HP1.out, hapn _ _ z1 HP1.out, ((HF2.out.on HK7.out).on kka).app hg4 HP2.out, hapn _ _ z2 HP2.out⟩
                  case measure => simp [intOf]; omega
                · have hkl : k = Bb.length := by omega
                  have d4 : decide (k < Bb.length) = false := by simp; omega
                  have hQE : Q ++ (Bb.take k).map f = P ++ (A.take j1).flatMap F := by rw [HJ1.out, HQS.out, List.take_of_length_le (by omega)]
                  rw [hQE] at hows
                  have HOW := hide hows
                  clear hows hkp hkf1 hap1 hkf2 hap2 hQE
                  go_wp2
                  go_roundw
                  all_goals have hj1 := HJ1.out
                  case rel => exact ⟨j1, by omega, rfl, HOW.out, HK3.out, HF1.out, HP1.out⟩
                  case measure => simp [intOf]; omega
            · have hjl : j = A.length := by omega
              have d3 : decide (j < A.length) = false := by simp; omega
              have hQE : P ++ (A.take j).flatMap F = (L.take r1).flatMap G := by rw [HR1.out, HST.out, List.take_of_length_le (by omega)]
              rw [hQE] at hows
              have HOW := hide hows
              obtain ⟨s1, s2, s3, s4, s5, s6⟩ := S.out
              clear hows hkp hkf hap hQE s1 s2 s3 s4 s5
              go_wp2
              go_roundw
              all_goals have hr1 := HR1.out
              case rel => exact ⟨r1, by rw [HLL.out]; omega, rfl, HOW.out, HK2.out⟩
              case measure => simp [intOf]; omega
        · have hrl : r = L.length := by rw [HLL.out]; omega
          have d2 : decide (r < n) = false := by simp [hlt]
          rw [hrl, List.take_length] at hows
          have HOW := hide hows
          clear hows hkp hrl
          go_wp2
          go_ret
          exact ⟨_, rfl, by rw [HT.out]; exact HOW.out, HK.out⟩
end Go.Proofs.Ytcpponjknmkfaaa
