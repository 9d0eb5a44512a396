/-
  plain.Run: what it answers. Conditions: the list of ops reads as ops (RD).
  zip.told, Run, Split, Merge: what they answer. Conditions: the lists read as they are named (RD); the table of math/bits holds what it is laid with (DTb).
  Plain laws of zipped trees: which keys they hold; that they are the one tree of their keys. No program. Conditions: none.
-/
import Derived.Test.YtfgbbmjnjppfnaaDoorG7
import Derived.Test.YtfgbbmjnjppfnaaDoorG4
import Derived.Test.YtfgbbmjnjppfnaaDoorG5

namespace Go.Proofs.YtfgbbmjnjppfnaaDoor
open Go.ChangeShapes Go.WideShapes Go.ChangeAt Go.RowKit
set_option linter.unusedVariables false
set_option linter.unusedSimpArgs false

def runS (s : List IP × List An) (o : O3) : List IP × List An := ((doA s.1 o.1 o.2.1 o.2.2).1, s.2 ++ [(doA s.1 o.1 o.2.1 o.2.2).2])
def runL (ops : List O3) : List IP × List An := ops.foldl runS ([], [])
def runOf (ops : List O3) : List IP × List An × Int := if ops.length > 300 then ([], [], 2) else ((runL ops).1, (runL ops).2, 0)
theorem runL_take (ops : List O3) (k : Nat) (h : k < ops.length) : runL (ops.take (k + 1)) = runS (runL (ops.take k)) ops[k] := by
  rw [List.take_succ_eq_append_getElem h, runL, List.foldl_append]; rfl
theorem runL_len (ops : List O3) (k : Nat) (h : k ≤ ops.length) : (runL (ops.take k)).2.length = k := by
  induction k with
  | zero => rfl
  | succ k ih =>
    rw [runL_take ops k (by omega), runS, List.length_append, ih (by omega)]; rfl
def RunPost (r : List IP × List An × Int) (w : World) (e : Ending) (w' : World) : Prop := ∃ v u, e = .returned (.tuple #[v, u, .int .i64 r.2.2]) ∧ RD w' ePair v r.1 ∧ RD w' eAns u r.2.1 ∧ Below w.heap.size w w'
def RnRel (ops : List O3) (w : World) (lv ov iv : Value) (wr : World) : Prop :=
  ∃ k : Nat, k ≤ ops.length ∧ iv = .int .i64 k ∧ OW wr w.heap.size 62 ePair lv (runL (ops.take k)).1 ∧ OW wr w.heap.size 47 eAns ov (runL (ops.take k)).2 ∧ Kp w wr

set_option maxRecDepth 100000 in
set_option maxHeartbeats 4000000 in
theorem run_any (ops : List O3) (v : Value) (w : World) (hr : RD w eOp v ops) : Calls Tryd.prog 42 #[v] w (RunPost (runOf ops) w) := by
  obtain ⟨A, c, rfl, hc, hm⟩ := hr.shape
  have HR := hide hr
  clear hr
  by_cases hlen : ops.length > 300
  · have H1 : Hid (runOf ops = ([], [], 2)) := hide (by rw [runOf, if_pos hlen])
    go_enter Tryd.func42, Tryd.ntmps42
    go_wp2
    go_ret3
    exact ⟨_, _, by rw [H1.out]; rfl, by rw [H1.out]; exact RD.nil, by rw [H1.out]; exact RD.nil, Below.refl _ _⟩
  · have H1 : Hid (runOf ops = ((runL ops).1, (runL ops).2, 0)) := hide (by rw [runOf, if_neg hlen])
    go_enter Tryd.func42, Tryd.ntmps42
    go_wp2
    go_loopw [5, 6, 16] (RnRel ops w) (fun _ _ i _ => ops.length - (intOf i).toNat)
    case atStart => exact ⟨0, by omega, rfl, OW.nil, OW.nil, Kp.refl _⟩
    case round =>
      obtain ⟨k, hk, rfl, hl, ho, hkp⟩ := hrel
      have hi := ho.hi
      have HLO := hide ho.lo
      have HL := hide hl
      have HO := hide ho
      have hol := runL_len ops k hk
      obtain ⟨A6, c6, hv6, hc6, hm6⟩ := ho.rd.shape
      rw [hol] at hv6 hc6
      subst hv6
      clear hl ho
      by_cases hlt : k < ops.length
      · obtain ⟨b, o, rfl, _, x0, x1, x2⟩ := (HR.out.kp hkp).op hlt
        have hst := runL_take ops k hlt
        obtain ⟨S, hS⟩ : ∃ S, S = runL (ops.take k) := ⟨_, rfl⟩
        rw [← hS] at HL HO hst hol
        obtain ⟨D, hD⟩ : ∃ D, D = doA S.1 ops[k].1 ops[k].2.1 ops[k].2.2 := ⟨_, rfl⟩
        have HST : Hid (runL (ops.take (k + 1)) = (D.1, S.2 ++ [D.2])) := hide (by rw [hst, runS, hD])
        have HD := hide (fun W v h => do_any S.1 ops[k].1 ops[k].2.1 ops[k].2.2 v W h)
        rw [← hD] at HD
        have HM1 : Hid ((S.2.length + [D.2].length) * 32 ≤ 140737488355328) := hide (by rw [hol]; simp; omega)
        have HM2 : Hid (S.2.length + [D.2].length ≤ maxLen) := hide (by rw [hol]; simp [maxLen]; omega)
        clear hst hD hS hol
        go_wp2_with fail
        refine (HD.out _ _ (HL.out.rd.alloc _)).mono ?_
        rintro e w2 ⟨v2, rfl, hr2, hb2⟩
        have hk2 : Kp wr w2 := (Kp.refl wr).alloc.trans hb2
        have HR2 := hide hr2
        have HO2 := hide (HO.out.kp hk2)
        obtain ⟨dl, da, db, dc, dd⟩ := D
        have hkw : Kp w w2 := hkp.trans hk2
        simp only [An.v]
        clear hr2 hb2
        go_wp2_with (at_builtin; (with_reducible refine list_app (B := w.heap.size) (l := S.2) (m := [(⟨da, db, dc, dd⟩ : An)]) row_ans (.slice A6 k c6) ?_ (.tmp 27) (.tmp 29) ?_ ?_ ?_ ?_ HM1.out HM2.out ?_ ?_); (with_reducible rfl); (with_reducible rfl); rfl; ((focus ((with_reducible apply OW.alloc); (with_reducible apply OW.alloc); exact HO2.out))); (show RD _ _ (.slice (some ⟨_, 0, none⟩) 1 1) _; (focus ((repeat (first | (with_reducible assumption) | exact RD.new1 _ rfl | (refine RD.new1e _ ?_ rfl; simp; done) | (with_reducible apply RD.alloc) | (with_reducible apply RD.drew) | (with_reducible apply RD.drewN) | ((with_reducible apply RD.belowR); (with_reducible assumption)))); done))); (exact Kp.size (w := w) (by (focus ((repeat (first | (with_reducible assumption) | (with_reducible exact Kp.refl _) | (with_reducible apply Kp.drew) | (with_reducible apply Kp.drewN) | ((with_reducible apply Kp.setR); (focus (first | (with_reducible assumption) | (simp; done) | (simp; omega)))) | (with_reducible apply Kp.alloc) | ((with_reducible apply Kp.call); (with_reducible assumption)) | ((with_reducible apply Kp.app); (with_reducible assumption)))); done)))); intro v3 w3 ho3 hg3 hat3)
        go_roundw
        case rel =>
          refine ⟨k + 1, by omega, by go_num, ?_, by rw [HST.out]; exact ho3, (by (focus ((repeat (first | (with_reducible assumption) | (with_reducible exact Kp.refl _) | (with_reducible apply Kp.drew) | (with_reducible apply Kp.drewN) | ((with_reducible apply Kp.setR); (focus (first | (with_reducible assumption) | (simp; done) | (simp; omega)))) | (with_reducible apply Kp.alloc) | ((with_reducible apply Kp.call); (with_reducible assumption)) | ((with_reducible apply Kp.app); (with_reducible assumption)))); done)))⟩
          rw [HST.out]
          have hap := Lo.apart HLO.out (Hi.mono HR2.out.hi (by simp))
          exact (OW.kept ((HR2.out.alloc _).alloc _) hg3 hap).more (by have := hkp.size; simp; omega)
        case measure => simp [intOf]; omega
      · have hkl : k = ops.length := by omega
        subst hkl
        have hS : Hid (ops.take ops.length = ops) := hide (by simp)
        clear hol
        go_wp2
        go_ret3
        exact ⟨_, _, by rw [H1.out]; rfl, by rw [H1.out, ← hS.out]; simpa using HL.out.rd, by rw [H1.out, ← hS.out]; simpa using HO.out.rd, hkp.bel⟩
end Go.Proofs.YtfgbbmjnjppfnaaDoor
namespace Go.Proofs.YtfgbbmjnjppfnaaDoor
open Go.ChangeShapes Go.WideShapes Go.ChangeAt Go.RowKit
set_option linter.unusedVariables false
set_option linter.unusedSimpArgs false

set_option maxRecDepth 100000 in
set_option maxHeartbeats 2000000 in
theorem zipTold_any (t : MT IP) (p : Option Addr) (F : List Nat) (w : World) (hm : MR w 113 ePair t p F) (hs : t.size ≤ 1000) : Calls Tryd.prog 36 #[.pointer p] w (RetRD ePair (t.spotsBy Prod.fst 0) w) := by
  have HO := hide (OB.new (B := w.heap.size) (st := 22) (e := 51) (E := ePair) w (Nat.le_refl _))
  have HC := hide (zip_spots_any w.heap.size w.heap.size (Nat.le_refl _) t p F 0 [] _ (hm.kp (Kp.refl w).alloc) (by omega) (by omega) (by simp; omega) HO.out (by simp))
  clear hm
  go_enter Tryd.func36, Tryd.ntmps36
  go_wp2_with fail
  with_reducible refine HC.out.mono ?_
  rintro e w1 ⟨rfl, ho1, hk1⟩
  have k1 := hk1.none (Kp.refl w).alloc (Nat.le_refl _) (by simp [go_sem])
  rw [List.nil_append] at ho1
  obtain ⟨u, hb, hu, hn⟩ := ho1
  have g0 := hb.cell 0
  obtain ⟨A3, N3, c3, rfl⟩ := hu.rd.slice
  have HU := hide hu.rd
  have K1 := hide k1
  clear hk1 hb hu hn k1
  go_wp2
  go_ret
  exact ⟨_, rfl, HU.out, K1.out.bel⟩
theorem unz_size : ∀ (t : MT IP) (k : Int), (unz t k).1.size + (unz t k).2.size = t.size
  | .nil, _ => rfl
  | .node a l r, k => by
    have h1 := unz_size l k
    have h2 := unz_size r k
    unfold unz
    split
    · simp only [MT.size]; omega
    · simp only [MT.size]; omega
theorem zipM_size : ∀ (n : Nat) (t u : MT IP), t.size + u.size ≤ n → (zipM t u).size = t.size + u.size
  | _, .nil, u, _ => by rw [zipM]; simp [MT.size]
  | _, .node a l r, .nil, _ => by rw [zipM_nil]; simp [MT.size]
  | 0, .node a l r, .node c x y, h => by simp [MT.size] at h
  | n + 1, .node a l r, .node c x y, h => by
    simp only [MT.size] at h
    have h1 := zipM_size n r (.node c x y) (by simp only [MT.size]; omega)
    have h2 := zipM_size n (.node a l r) x (by simp only [MT.size]; omega)
    simp only [MT.size] at h1 h2
    rw [zipM_node]
    split
    · simp only [MT.size]; omega
    · simp only [MT.size]; omega
theorem putM_size : ∀ (t : MT IP) (p : IP), (putM t p).size ≤ t.size + 1
  | .nil, p => by simp [putM, MT.size]
  | .node a l r, p => by
    have h1 := putM_size l p
    have h2 := putM_size r p
    have h3 := unz_size (.node a l r) p.1
    unfold putM
    split
    · split
      · omega
      · split <;> simp only [MT.size] <;> omega
    · split
      · omega
      · simp only [MT.size] at h3 ⊢; omega
theorem cutM_size : ∀ (t : MT IP) (k : Int), (cutM t k).size ≤ t.size
  | .nil, _ => by simp [cutM]
  | .node a l r, k => by
    have h1 := cutM_size l k
    have h2 := cutM_size r k
    have h3 := zipM_size _ l r (Nat.le_refl _)
    unfold cutM
    split
    · simp only [MT.size]; omega
    · split
      · simp only [MT.size]; omega
      · simp only [MT.size]; omega
def zrS (T : MT IP) (o : O3) (a : An) : MT IP := if a.err ≠ 0 then T else if o.1 = 1 then putM T (o.2.1, hgtF o.2.1) else if o.1 = 3 then cutM T o.2.1 else T
def zrT (z : List (O3 × An)) : MT IP := z.foldl (fun T p => zrS T p.1 p.2) .nil
theorem zrT_snoc (z : List (O3 × An)) (k : Nat) (h : k < z.length) : zrT (z.take (k + 1)) = zrS (zrT (z.take k)) z[k].1 z[k].2 := by
  rw [List.take_succ_eq_append_getElem h, zrT, List.foldl_append]; rfl
theorem zrS_size (T : MT IP) (o : O3) (a : An) : (zrS T o a).size ≤ T.size + 1 := by
  unfold zrS
  split
  · omega
  · split
    · exact putM_size _ _
    · split
      · have := cutM_size T o.2.1; omega
      · omega
theorem zrT_size (z : List (O3 × An)) (k : Nat) (h : k ≤ z.length) : (zrT (z.take k)).size ≤ k := by
  induction k with
  | zero => simp [zrT, MT.size]
  | succ k ih => rw [zrT_snoc z k (by omega)]; have := zrS_size (zrT (z.take k)) z[k].1 z[k].2; have := ih (by omega); omega
def opsA (ops : List O3) : List (O3 × An) := ops.zip (runL ops).2
def zipRun (ops : List O3) : List IP × List An × Int := if ops.length > 300 then ([], [], 2) else ((zrT (opsA ops)).spotsBy Prod.fst 0, (runL ops).2, 0)
def ZuRel (z : List (O3 × An)) (w0 : World) (nt : TypeId) (rv iv : Value) (wr : World) : Prop := ∃ (k : Nat) (p : Option Addr) (F : List Nat), k ≤ z.length ∧ iv = .int .i64 k ∧ rv = .pointer p ∧ MR wr nt ePair (zrT (z.take k)) p F ∧ (∀ x ∈ F, w0.heap.size ≤ x) ∧ Kp w0 wr
theorem ZmPost.own {nt : TypeId} {T' : MT IP} {F : List Nat} {w0 w w' : World} {e : Ending} (h : ZmPost nt T' F w e w') (hF : ∀ x ∈ F, w0.heap.size ≤ x) (hk : Kp w0 w) :
    ∃ p F', e = .returned (.pointer p) ∧ MR w' nt ePair T' p F' ∧ (∀ x ∈ F', w0.heap.size ≤ x) ∧ Kp w0 w' := by
  obtain ⟨p, F', h1, h2, h3, h4⟩ := h
  have hz := hk.size
  refine ⟨p, F', h1, h2, fun x hx => ?_, h4.kp hk hF⟩
  rcases h3 x hx with h | h
  · exact hF x h
  · omega
set_option maxRecDepth 100000 in
set_option maxHeartbeats 8000000 in
theorem zipRun_any (ops : List O3) (v : Value) (w : World) (hr : RD w eOp v ops) (hdb : DTb w) : Calls Tryd.prog 17 #[v] w (RunPost (zipRun ops) w) := by
  obtain ⟨A, c, rfl, hc, hm⟩ := hr.shape
  have HR := hide hr
  have HRU := hide (fun W v h => run_any ops v W h)
  have HDB := hide hdb
  clear hr hdb
  by_cases hlen : ops.length > 300
  · have h1 : runOf ops = ([], [], 2) := by rw [runOf, if_pos hlen]
    have H1 : Hid (zipRun ops = ([], [], 2)) := hide (by rw [zipRun, if_pos hlen])
    rw [h1] at HRU
    clear h1
    go_enter Tryd.func17, Tryd.ntmps17
    go_wp2_with fail
    with_reducible refine (HRU.out _ _ HR.out).mono ?_
    rintro e w1 ⟨v1, u1, rfl, hr1, hu1, hb1⟩
    obtain ⟨A1, c1, rfl, _, _⟩ := hr1.shape
    obtain ⟨A2, c2, rfl, _, _⟩ := hu1.shape
    clear hr1 hu1
    go_wp2
    go_ret3
    exact ⟨_, _, by rw [H1.out]; rfl, by rw [H1.out]; exact RD.nil, by rw [H1.out]; exact RD.nil, hb1⟩
  · have h1 : runOf ops = ((runL ops).1, (runL ops).2, 0) := by rw [runOf, if_neg hlen]
    have H1 : Hid (zipRun ops = ((zrT (opsA ops)).spotsBy Prod.fst 0, (runL ops).2, 0)) := hide (by rw [zipRun, if_neg hlen])
    have hal := runL_len ops ops.length (Nat.le_refl _)
    rw [List.take_length] at hal
    have hzl : (opsA ops).length = ops.length := by rw [opsA, List.length_zip, hal]; omega
    have hzk : ∀ k (h : k < (opsA ops).length) (h1 : k < ops.length) (h2 : k < (runL ops).2.length), (opsA ops)[k] = (ops[k], (runL ops).2[k]) := fun k h h1 h2 => by simp [opsA]
    obtain ⟨z, hz⟩ : ∃ z, z = opsA ops := ⟨_, rfl⟩
    rw [← hz] at H1 hzl
    have HZK : Hid (∀ k (h : k < z.length) (h1 : k < ops.length) (h2 : k < (runL ops).2.length), z[k] = (ops[k], (runL ops).2[k])) := hide (by rw [hz]; exact hzk)
    rw [h1] at HRU
    obtain ⟨an, han⟩ : ∃ a, a = (runL ops).2 := ⟨_, rfl⟩
    rw [← han] at HRU H1 HZK hal
    have HZL := hide hzl
    have HAL := hide hal
    clear h1 hz hzk hzl hal han
    go_enter Tryd.func17, Tryd.ntmps17
    go_wp2_with fail
    with_reducible refine (HRU.out _ _ HR.out).mono ?_
    rintro e w1 ⟨v1, u1, rfl, hr1, hu1, hb1⟩
    obtain ⟨A1, c1, rfl, _, _⟩ := hr1.shape
    obtain ⟨A2, c2, rfl, hc2, hm2⟩ := hu1.shape
    have k1 : Kp w w1 := hb1
    have HK1 := hide k1
    have HU := hide hu1
    have hcc : an.length ≤ 9223372036854775807 := by have h := hc2; simp only at h; omega
    clear hr1 hu1 hb1 k1
    go_wp2
    go_loopw [8, 22] (ZuRel z w1 113) (fun _ i _ => z.length - (intOf i).toNat)
    case atStart => exact ⟨0, none, [], by omega, rfl, rfl, MR.nil, by simp, Kp.refl _⟩
    case round =>
      obtain ⟨k, p, F, hk, rfl, rfl, hmr, hF, hkp⟩ := hrel
      have hsz := zrT_size z k hk
      have HMR := hide hmr
      have HFF := hide hF
      have HKP := hide hkp
      clear hmr hF
      by_cases hlt : k < z.length
      · have hko : k < ops.length := by rw [← HZL.out]; exact hlt
        have hka : k < an.length := by rw [HAL.out]; exact hko
        have bka : (k : Int) < (an.length : Int) := by omega
        obtain ⟨b, o, rfl, _, x0, x1, x2⟩ := (HR.out.kp (HK1.out.trans hkp)).op hko
        obtain ⟨b2, o2, rfl, _, y0, _, _, _⟩ := (HU.out.kp hkp).ans hka
        have hst := zrT_snoc z k hlt
        rw [HZK.out k hlt hko hka] at hst
        simp only [zrS] at hst
        obtain ⟨T0, hT0⟩ : ∃ T0, T0 = zrT (z.take k) := ⟨_, rfl⟩
        obtain ⟨er, her⟩ : ∃ er, er = an[k].err := ⟨_, rfl⟩
        obtain ⟨⟨kd, ke, va⟩, hop⟩ : ∃ P, P = ops[k] := ⟨_, rfl⟩
        rw [← hT0] at HMR hst
        rw [← her] at y0 hst
        rw [← hop] at x0 x1 x2 hst
        simp only at x0 x1 x2 hst
        have y0' := ((Kp.refl wr).alloc (o := .cells #[.int .i64 kd, .int .i64 ke, .int .i64 va] 58)).cell y0
        have HST := hide hst
        have HPU := hide (fun W (hk : Kp wr W) => zput_any T0 p F ke W (HMR.out.kp hk) (HDB.out.kp (HK1.out.trans (HKP.out.trans hk))))
        have HCU := hide (fun W (hk : Kp wr W) => zcut_any T0 p F ke W (HMR.out.kp hk))
        have KA : Kp wr (wr.alloc (.cells #[.int .i64 kd, .int .i64 ke, .int .i64 va] 58)) := (Kp.refl wr).alloc
        clear hT0 her hop hst hkp
        by_cases he : er = 0
        · subst he
          by_cases h1 : kd = 1
          · subst h1
            have HN : Hid (zrT (z.take (k + 1)) = putM T0 (ke, hgtF ke)) := hide (by rw [HST.out]; simp)
            obtain ⟨T1, hT1⟩ : ∃ T1, T1 = putM T0 (ke, hgtF ke) := ⟨_, rfl⟩
            rw [← hT1] at HN HPU
            clear hT1
            go_wp2_with fail
            with_reducible refine (HPU.out _ KA).mono ?_
            intro e w2 hpost
            obtain ⟨p2, F2, rfl, m1, m2, m3⟩ := hpost.own HFF.out (HKP.out.trans KA)
            have M1 := hide m1
            have M2 := hide m2
            have M3 := hide m3
            clear hpost m1 m2 m3
            go_wp2
            go_roundw
            case rel => exact ⟨k + 1, p2, F2, by omega, by go_num, rfl, by rw [HN.out]; exact M1.out, M2.out, M3.out⟩
            case measure => simp [intOf]; omega
          · have d2 : (kd == 1) = false := by simpa using h1
            by_cases h3 : kd = 3
            · subst h3
              have HN : Hid (zrT (z.take (k + 1)) = cutM T0 ke) := hide (by rw [HST.out]; simp)
              obtain ⟨T1, hT1⟩ : ∃ T1, T1 = cutM T0 ke := ⟨_, rfl⟩
              rw [← hT1] at HN HCU
              clear hT1
              go_wp2_with fail
              with_reducible refine (HCU.out _ KA).mono ?_
              intro e w2 hpost
              obtain ⟨p2, F2, rfl, m1, m2, m3⟩ := hpost.own HFF.out (HKP.out.trans KA)
              have M1 := hide m1
              have M2 := hide m2
              have M3 := hide m3
              clear hpost m1 m2 m3
              go_wp2
              go_roundw
              case rel => exact ⟨k + 1, p2, F2, by omega, by go_num, rfl, by rw [HN.out]; exact M1.out, M2.out, M3.out⟩
              case measure => simp [intOf]; omega
            · have d3 : (kd == 3) = false := by simpa using h3
              have HN : Hid (zrT (z.take (k + 1)) = T0) := hide (by rw [HST.out]; simp [h1, h3])
              go_wp2
              go_roundw
              case rel => exact ⟨k + 1, p, F, by omega, by go_num, rfl, by rw [HN.out]; exact HMR.out.kp KA, HFF.out, HKP.out.trans KA⟩
              case measure => simp [intOf]; omega
        · have d1 : (er != 0) = true := by simpa using he
          have HN : Hid (zrT (z.take (k + 1)) = T0) := hide (by rw [HST.out]; simp [he])
          go_wp2
          go_roundw
          case rel => exact ⟨k + 1, p, F, by omega, by go_num, rfl, by rw [HN.out]; exact HMR.out.kp KA, HFF.out, HKP.out.trans KA⟩
          case measure => simp [intOf]; omega
      · have hkz : k = z.length := by omega
        subst hkz
        have hS : Hid (z.take z.length = z) := hide (by simp)
        have hlo : ¬ ((z.length : Int) < (ops.length : Int)) := by rw [HZL.out]; omega
        have HT := hide (zipTold_any (zrT (z.take z.length)) p F wr HMR.out (by have := HZL.out; omega))
        go_wp2_with fail
        with_reducible refine HT.out.mono ?_
        rintro e w2 ⟨v2, rfl, hr2, hb2⟩
        have HR2 := hide hr2
        have kk2 : Kp wr w2 := Kp.of hb2
        clear hr2 hb2
        go_wp2
        go_ret3
        exact ⟨_, _, by rw [H1.out]; rfl, by rw [H1.out]; have h := HR2.out; rwa [hS.out] at h, by rw [H1.out]; exact HU.out.kp (HKP.out.trans kk2), (HK1.out.trans (HKP.out.trans kk2)).bel⟩
end Go.Proofs.YtfgbbmjnjppfnaaDoor
namespace Go.Proofs.YtfgbbmjnjppfnaaDoor
open Go.ChangeShapes Go.WideShapes Go.ChangeAt Go.RowKit
set_option linter.unusedVariables false
set_option linter.unusedSimpArgs false

theorem ov_iff (a c : IP) : ov a c = true ↔ (c.2 < a.2 ∨ (a.2 = c.2 ∧ a.1 < c.1)) := by simp [ov]
theorem ov_trans {a b c : IP} (h1 : ov a b = true) (h2 : ov b c = true) : ov a c = true := by
  rw [ov_iff] at *; omega
theorem ov_total {a c : IP} (h : ov a c = false) (hne : a.1 ≠ c.1) : ov c a = true := by
  have h' : ¬ (ov a c = true) := by simp [h]
  rw [ov_iff] at h' ⊢; omega
theorem ov_irr {a c : IP} (h1 : ov a c = true) (h2 : ov c a = true) : False := by
  rw [ov_iff] at *; omega
def nd : MT IP → List IP
  | .nil => []
  | .node a l r => nd l ++ a :: nd r
def Hp : MT IP → Prop
  | .nil => True
  | .node a l r => (∀ x ∈ nd l, ov a x = true) ∧ (∀ x ∈ nd r, ov a x = true) ∧ Hp l ∧ Hp r
def UpN (L : List IP) : Prop := L.Pairwise (fun x y => x.1 < y.1)
theorem upN_node {a : IP} {l r : MT IP} (h : UpN (nd (.node a l r))) : UpN (nd l) ∧ UpN (nd r) ∧ (∀ x ∈ nd l, x.1 < a.1) ∧ (∀ x ∈ nd r, a.1 < x.1) ∧ ∀ x ∈ nd l, ∀ y ∈ nd r, x.1 < y.1 := by
  rw [UpN, nd, List.pairwise_append, List.pairwise_cons] at h
  obtain ⟨h1, ⟨h2, h3⟩, h4⟩ := h
  exact ⟨h1, h3, fun x hx => h4 x hx a (by simp), h2, fun x hx y hy => h4 x hx y (by simp [hy])⟩
theorem fl_all {p : IP → Bool} {l : List IP} (h : ∀ x ∈ l, p x = true) : l.filter p = l := List.filter_eq_self.2 h
theorem fl_no {p : IP → Bool} {l : List IP} (h : ∀ x ∈ l, p x = false) : l.filter p = [] := List.filter_eq_nil_iff.2 fun x hx => by simp [h x hx]
theorem nd_unz : ∀ (t : MT IP) (k : Int), UpN (nd t) → nd (unz t k).1 = (nd t).filter (fun x => decide (x.1 < k)) ∧ nd (unz t k).2 = (nd t).filter (fun x => !decide (x.1 < k))
  | .nil, _, _ => ⟨rfl, rfl⟩
  | .node a l r, k, h => by
    obtain ⟨h1, h2, h3, h4, _⟩ := upN_node h
    unfold unz
    split
    · next hk =>
      obtain ⟨e1, e2⟩ := nd_unz r k h2
      have hl : ∀ x ∈ nd l, x.1 < k := fun x hx => by have := h3 x hx; omega
      constructor
      · simp only [nd, List.filter_append, List.filter_cons, e1]
        rw [fl_all (l := nd l) (p := fun x => decide (x.1 < k)) (fun x hx => by simp [hl x hx])]; simp [hk]
      · simp only [nd, List.filter_append, List.filter_cons, e2]
        rw [fl_no (l := nd l) (p := fun x => !decide (x.1 < k)) (fun x hx => by simp [hl x hx])]; simp [hk]
    · next hk =>
      obtain ⟨e1, e2⟩ := nd_unz l k h1
      have hr : ∀ x ∈ nd r, ¬ x.1 < k := fun x hx => by have := h4 x hx; omega
      constructor
      · simp only [nd, List.filter_append, List.filter_cons, e1]
        rw [fl_no (l := nd r) (p := fun x => decide (x.1 < k)) (fun x hx => by simp [hr x hx])]; simp [hk]
      · simp only [nd, List.filter_append, List.filter_cons, e2]
        rw [fl_all (l := nd r) (p := fun x => !decide (x.1 < k)) (fun x hx => by simp [hr x hx])]; simp [hk]
theorem hp_unz : ∀ (t : MT IP) (k : Int), UpN (nd t) → Hp t → Hp (unz t k).1 ∧ Hp (unz t k).2
  | .nil, _, _, _ => ⟨trivial, trivial⟩
  | .node a l r, k, h, ⟨p1, p2, p3, p4⟩ => by
    obtain ⟨h1, h2, _, _, _⟩ := upN_node h
    unfold unz
    split
    · obtain ⟨e1, e2⟩ := nd_unz r k h2
      obtain ⟨i1, i2⟩ := hp_unz r k h2 p4
      exact ⟨⟨p1, fun x hx => p2 x (by simp only [e1, List.mem_filter] at hx; exact hx.1), p3, i1⟩, i2⟩
    · obtain ⟨e1, e2⟩ := nd_unz l k h1
      obtain ⟨i1, i2⟩ := hp_unz l k h1 p3
      exact ⟨i1, fun x hx => p1 x (by simp only [e2, List.mem_filter] at hx; exact hx.1), p2, i2, p4⟩
theorem nd_zip : ∀ (n : Nat) (t u : MT IP), t.size + u.size ≤ n → nd (zipM t u) = nd t ++ nd u
  | _, .nil, u, _ => by rw [zipM]; rfl
  | _, .node a l r, .nil, _ => by rw [zipM_nil]; simp [nd]
  | 0, .node a l r, .node c x y, h => by simp [MT.size] at h
  | n + 1, .node a l r, .node c x y, h => by
    simp only [MT.size] at h
    have h1 := nd_zip n r (.node c x y) (by simp only [MT.size]; omega)
    have h2 := nd_zip n (.node a l r) x (by simp only [MT.size]; omega)
    rw [zipM_node]
    split
    · simp only [nd] at h1 ⊢; rw [h1]; simp
    · simp only [nd] at h2 ⊢; rw [h2]; simp
theorem hp_zip : ∀ (n : Nat) (t u : MT IP), t.size + u.size ≤ n → Hp t → Hp u → (∀ x ∈ nd t, ∀ y ∈ nd u, x.1 < y.1) → Hp (zipM t u)
  | _, .nil, u, _, _, h, _ => by rw [zipM]; exact h
  | _, .node a l r, .nil, _, h, _, _ => by rw [zipM_nil]; exact h
  | 0, .node a l r, .node c x y, h, _, _, _ => by simp [MT.size] at h
  | n + 1, .node a l r, .node c x y, h, ⟨p1, p2, p3, p4⟩, ⟨q1, q2, q3, q4⟩, hlt => by
    simp only [MT.size] at h
    rw [zipM_node]
    have hac : a.1 < c.1 := hlt a (by simp [nd]) c (by simp [nd])
    split
    · next ho =>
      refine ⟨p1, fun z hz => ?_, p3, hp_zip n r (.node c x y) (by simp only [MT.size]; omega) p4 ⟨q1, q2, q3, q4⟩ (fun z hz w hw => hlt z (by simp [nd, hz]) w hw)⟩
      rw [nd_zip _ r (.node c x y) (Nat.le_refl _)] at hz
      rcases List.mem_append.1 hz with hz | hz
      · exact p2 z hz
      · simp only [nd, List.mem_append, List.mem_cons] at hz
        rcases hz with hz | hz | hz
        · exact ov_trans ho (q1 z hz)
        · rw [hz]; exact ho
        · exact ov_trans ho (q2 z hz)
    · next ho =>
      have hca : ov c a = true := ov_total (by simpa using ho) (by omega)
      refine ⟨fun z hz => ?_, q2, hp_zip n (.node a l r) x (by simp only [MT.size]; omega) ⟨p1, p2, p3, p4⟩ q3 (fun z hz w hw => hlt z hz w (by simp [nd, hw])), q4⟩
      rw [nd_zip _ (.node a l r) x (Nat.le_refl _)] at hz
      rcases List.mem_append.1 hz with hz | hz
      · simp only [nd, List.mem_append, List.mem_cons] at hz
        rcases hz with hz | hz | hz
        · exact ov_trans hca (p1 z hz)
        · rw [hz]; exact hca
        · exact ov_trans hca (p2 z hz)
      · exact q1 z hz
def ndIns (L : List IP) (p : IP) : List IP := L.filter (fun x => decide (x.1 < p.1)) ++ p :: L.filter (fun x => decide (p.1 < x.1))
theorem ndIns_mem {L : List IP} {p x : IP} (h : x ∈ ndIns L p) : x = p ∨ x ∈ L := by
  simp only [ndIns, List.mem_append, List.mem_cons, List.mem_filter] at h
  rcases h with h | h | h
  · exact .inr h.1
  · exact .inl h
  · exact .inr h.1
theorem nd_put : ∀ (t : MT IP) (p : IP), UpN (nd t) → Hp t → (∀ x ∈ nd t, x.1 = p.1 → x = p) → nd (putM t p) = ndIns (nd t) p ∧ Hp (putM t p)
  | .nil, p, _, _, _ => ⟨rfl, by simp [putM, Hp, nd]⟩
  | .node a l r, p, h, ⟨p1, p2, p3, p4⟩, hk => by
    obtain ⟨h1, h2, h3, h4, _⟩ := upN_node h
    unfold putM
    split
    · next ho =>
      have hne : ¬ p.1 = a.1 := fun e => by
        have := hk a (by simp [nd]) e.symm
        rw [this] at ho; exact ov_irr ho ho
      rw [if_neg hne]
      split
      · next hlt =>
        obtain ⟨i1, i2⟩ := nd_put l p h1 p3 (fun x hx => hk x (by simp [nd, hx]))
        refine ⟨?_, fun x hx => ?_, p2, i2, p4⟩
        · simp only [nd, ndIns, List.filter_append, List.filter_cons] at i1 ⊢
          rw [i1, fl_no (l := nd r) (p := fun x => decide (x.1 < p.1)) (fun x hx => by have := h4 x hx; simp; omega), fl_all (l := nd r) (p := fun x => decide (p.1 < x.1)) (fun x hx => by have := h4 x hx; simp; omega)]
          simp [hlt, show ¬ a.1 < p.1 by omega]
        · rw [i1] at hx
          rcases ndIns_mem hx with e | hx
          · rw [e]; exact ho
          · exact p1 x hx
      · next hlt =>
        obtain ⟨i1, i2⟩ := nd_put r p h2 p4 (fun x hx => hk x (by simp [nd, hx]))
        refine ⟨?_, p1, fun x hx => ?_, p3, i2⟩
        · simp only [nd, ndIns, List.filter_append, List.filter_cons] at i1 ⊢
          rw [i1, fl_all (l := nd l) (p := fun x => decide (x.1 < p.1)) (fun x hx => by have := h3 x hx; simp; omega), fl_no (l := nd l) (p := fun x => decide (p.1 < x.1)) (fun x hx => by have := h3 x hx; simp; omega)]
          simp [show a.1 < p.1 by omega, show ¬ p.1 < a.1 by omega]
        · rw [i1] at hx
          rcases ndIns_mem hx with e | hx
          · rw [e]; exact ho
          · exact p2 x hx
    · next ho =>
      split
      · next he =>
        have e : a = p := hk a (by simp [nd]) he
        subst e
        refine ⟨?_, p1, p2, p3, p4⟩
        simp only [nd, ndIns, List.filter_append, List.filter_cons]
        rw [fl_all (l := nd l) (p := fun x => decide (x.1 < a.1)) (fun x hx => by have := h3 x hx; simp; omega), fl_no (l := nd l) (p := fun x => decide (a.1 < x.1)) (fun x hx => by have := h3 x hx; simp; omega), fl_no (l := nd r) (p := fun x => decide (x.1 < a.1)) (fun x hx => by have := h4 x hx; simp; omega), fl_all (l := nd r) (p := fun x => decide (a.1 < x.1)) (fun x hx => by have := h4 x hx; simp; omega)]
        simp
      · next he =>
        have hpa : ov p a = true := ov_total (by simpa using ho) he
        have hall : ∀ x ∈ nd (.node a l r), ov p x = true := fun x hx => by
          simp only [nd, List.mem_append, List.mem_cons] at hx
          rcases hx with hx | hx | hx
          · exact ov_trans hpa (p1 x hx)
          · rw [hx]; exact hpa
          · exact ov_trans hpa (p2 x hx)
        have hnk : ∀ x ∈ nd (.node a l r), x.1 ≠ p.1 := fun x hx e => by
          have e2 := hk x hx e
          have h9 := hall x hx
          rw [e2] at h9; exact ov_irr h9 h9
        obtain ⟨e1, e2⟩ := nd_unz (.node a l r) p.1 h
        obtain ⟨i1, i2⟩ := hp_unz (.node a l r) p.1 h ⟨p1, p2, p3, p4⟩
        refine ⟨?_, fun x hx => ?_, fun x hx => ?_, i1, i2⟩
        · rw [nd, e1, e2, ndIns]
          congr 2
          apply List.filter_congr
          intro x hx
          have := hnk x hx
          rw [Bool.eq_iff_iff]; simp; omega
        · rw [e1] at hx; exact hall x (List.mem_filter.1 hx).1
        · rw [e2] at hx; exact hall x (List.mem_filter.1 hx).1
theorem nd_cut : ∀ (t : MT IP) (k : Int), UpN (nd t) → Hp t → nd (cutM t k) = (nd t).filter (fun x => !(x.1 == k)) ∧ Hp (cutM t k)
  | .nil, _, _, _ => ⟨rfl, trivial⟩
  | .node a l r, k, h, ⟨p1, p2, p3, p4⟩ => by
    obtain ⟨h1, h2, h3, h4, h5⟩ := upN_node h
    unfold cutM
    split
    · next hk =>
      obtain ⟨i1, i2⟩ := nd_cut l k h1 p3
      refine ⟨?_, fun x hx => p1 x ?_, p2, i2, p4⟩
      · simp only [nd, List.filter_append, List.filter_cons, i1]
        rw [fl_all (l := nd r) (p := fun x => !(x.1 == k)) (fun x hx => by have := h4 x hx; simp; omega)]
        simp [show ¬ a.1 = k by omega]
      · rw [i1] at hx; exact (List.mem_filter.1 hx).1
    · split
      · next hk =>
        obtain ⟨i1, i2⟩ := nd_cut r k h2 p4
        refine ⟨?_, p1, fun x hx => p2 x ?_, p3, i2⟩
        · simp only [nd, List.filter_append, List.filter_cons, i1]
          rw [fl_all (l := nd l) (p := fun x => !(x.1 == k)) (fun x hx => by have := h3 x hx; simp; omega)]
          simp [show ¬ a.1 = k by omega]
        · rw [i1] at hx; exact (List.mem_filter.1 hx).1
      · next hk1 hk2 =>
        have e : a.1 = k := by omega
        refine ⟨?_, hp_zip _ l r (Nat.le_refl _) p3 p4 h5⟩
        rw [nd_zip _ l r (Nat.le_refl _)]
        simp only [nd, List.filter_append, List.filter_cons]
        rw [fl_all (l := nd l) (p := fun x => !(x.1 == k)) (fun x hx => by have := h3 x hx; simp; omega), fl_all (l := nd r) (p := fun x => !(x.1 == k)) (fun x hx => by have := h4 x hx; simp; omega)]
        simp [e]
theorem split_at {a : IP} : ∀ {l1 r1 l2 r2 : List IP}, l1 ++ a :: r1 = l2 ++ a :: r2 → a ∉ l1 → a ∉ l2 → l1 = l2 ∧ r1 = r2
  | [], r1, [], r2, h, _, _ => by simp at h; exact ⟨rfl, h⟩
  | [], r1, y :: l2, r2, h, _, h2 => by
    simp only [List.nil_append, List.cons_append, List.cons.injEq] at h
    exact absurd (by simp [h.1]) h2
  | x :: l1, r1, [], r2, h, h1, _ => by
    simp only [List.nil_append, List.cons_append, List.cons.injEq] at h
    exact absurd (by simp [h.1]) h1
  | x :: l1, r1, y :: l2, r2, h, h1, h2 => by
    simp only [List.cons_append, List.cons.injEq] at h
    obtain ⟨e1, e2⟩ := split_at h.2 (fun hx => h1 (by simp [hx])) (fun hx => h2 (by simp [hx]))
    exact ⟨by rw [h.1, e1], e2⟩
/-- There is just one. -/
theorem hp_one : ∀ (t u : MT IP), nd t = nd u → Hp t → Hp u → UpN (nd t) → t = u
  | .nil, .nil, _, _, _, _ => rfl
  | .nil, .node c x y, h, _, _, _ => by simp [nd] at h
  | .node a l r, .nil, h, _, _, _ => by simp [nd] at h
  | .node a l r, .node c x y, h, ⟨p1, p2, p3, p4⟩, ⟨q1, q2, q3, q4⟩, hu => by
    have hu2 : UpN (nd (.node c x y)) := by rw [← h]; exact hu
    obtain ⟨u1, u2, u3, u4, _⟩ := upN_node hu
    obtain ⟨v1, v2, v3, v4, _⟩ := upN_node hu2
    have e : a = c := by
      have ha : a ∈ nd (.node c x y) := by rw [← h]; simp [nd]
      have hc : c ∈ nd (.node a l r) := by rw [h]; simp [nd]
      simp only [nd, List.mem_append, List.mem_cons] at ha hc
      rcases ha with ha | ha | ha
      · rcases hc with hc | hc | hc
        · exact absurd (q1 a ha) (fun h9 => ov_irr h9 (p1 c hc))
        · exact hc.symm
        · exact absurd (q1 a ha) (fun h9 => ov_irr h9 (p2 c hc))
      · exact ha
      · rcases hc with hc | hc | hc
        · exact absurd (q2 a ha) (fun h9 => ov_irr h9 (p1 c hc))
        · exact hc.symm
        · exact absurd (q2 a ha) (fun h9 => ov_irr h9 (p2 c hc))
    subst e
    obtain ⟨e1, e2⟩ := split_at (a := a) (show nd l ++ a :: nd r = nd x ++ a :: nd y from h) (fun hx => by have := u3 a hx; omega) (fun hx => by have := v3 a hx; omega)
    rw [hp_one l x e1 p3 q3 u1, hp_one r y e2 p4 q4 u2]
end Go.Proofs.YtfgbbmjnjppfnaaDoor
