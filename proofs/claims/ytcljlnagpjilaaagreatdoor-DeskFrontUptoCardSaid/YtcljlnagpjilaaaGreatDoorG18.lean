/-
  zip.told, Run, Split, Merge: what they answer
  Rows that lie apart: what an append to one leaves of another
  The lesser and the other keys of a list, and a loop that parts them
  grow.sorted, grow.Sort: what they answer
  Plain laws
-/
import Derived.Test.YtcljlnagpjilaaaGreatDoorG17
import Derived.Test.YtcljlnagpjilaaaGreatDoorG9
import Derived.Test.YtcljlnagpjilaaaGreatDoorG3
import Derived.Test.YtcljlnagpjilaaaGreatDoorG1
import Derived.Test.YtcljlnagpjilaaaGreatDoorG16

set_option linter.unusedVariables false
set_option linter.unusedSimpArgs false
set_option maxRecDepth 100000
set_option maxHeartbeats 8000000
namespace Go.Proofs.YtcljlnagpjilaaaGreatDoor
open Go.ChangeShapes Go.WideShapes Go.ChangeAt Go.RowKit
theorem zipTold_any (t : MT IP) (p : Option Addr) (F : List Nat) (w : World) (hm : MR w 245 ePair t p F) (hs : t.size <= 1000) : Calls Tryz.prog 137 #[.pointer p] w (RetRD ePair (t.spotsBy Prod.fst 0) w) := by
 have HO := hide (OB.new (B := w.heap.size) (st := 72) (e := 108) (E := ePair) w (Nat.le_refl _))
 have HC := hide (zip_spots_any w.heap.size w.heap.size (Nat.le_refl _) t p F 0 [] _ (hm.kp (Kp.refl w).alloc) (by omega) (by omega) (by simp; omega) HO.out (by simp))
 clear hm
 go_enter Tryz.func137, Tryz.ntmps137
 go_wp2_with fail
 with_reducible refine HC.out.mono ?_
 rintro e w1 ⟨rfl, ho1, hk1⟩
 have k1 := hk1.none (Kp.refl w).alloc (Nat.le_refl _) (by simp [go_sem])
 rw [List.nil_append] at ho1
 obtain ⟨u, hb, hu, hn⟩ := ho1
 have g0 := hb.cell 0
 obtain ⟨A3, N3, c3, rfl⟩ := hu.rd.slice
 have HU := hide hu.rd
 have K1 := hide k1
 clear hk1 hb hu hn k1
 go_wp2
 go_ret
 exact ⟨_, rfl, HU.out, K1.out.bel⟩
theorem unz_size : ∀ (t : MT IP) (k : Int), (unz t k).1.size + (unz t k).2.size = t.size
 | .nil, _ => rfl
 | .node a l r, k => by
  have h1 := unz_size l k
  have h2 := unz_size r k
  unfold unz
  split
  ·simp only [MT.size]; omega
  ·simp only [MT.size]; omega
theorem zipM_size : ∀ (n : Nat) (t u : MT IP), t.size + u.size <= n -> (zipM t u).size = t.size + u.size
 | _, .nil, u, _ => by rw [zipM]; simp [MT.size]
 | _, .node a l r, .nil, _ => by rw [zipM_nil]; simp [MT.size]
 | 0, .node a l r, .node c x y, h => by simp [MT.size] at h
 | n + 1, .node a l r, .node c x y, h => by
  simp only [MT.size] at h
  have h1 := zipM_size n r (.node c x y) (by simp only [MT.size]; omega)
  have h2 := zipM_size n (.node a l r) x (by simp only [MT.size]; omega)
  simp only [MT.size] at h1 h2
  rw [zipM_node]
  split
  ·simp only [MT.size]; omega
  ·simp only [MT.size]; omega
theorem putM_size : ∀ (t : MT IP) (p : IP), (putM t p).size <= t.size + 1
 | .nil, p => by simp [putM, MT.size]
 | .node a l r, p => by
  have h1 := putM_size l p
  have h2 := putM_size r p
  have h3 := unz_size (.node a l r) p.1
  unfold putM
  split
  ·split
   ·omega
   ·split <;> simp only [MT.size] <;> omega
  ·split
   ·omega
   ·simp only [MT.size] at h3 ⊢; omega
theorem cutM_size : ∀ (t : MT IP) (k : Int), (cutM t k).size <= t.size
 | .nil, _ => by simp [cutM]
 | .node a l r, k => by
  have h1 := cutM_size l k
  have h2 := cutM_size r k
  have h3 := zipM_size _ l r (Nat.le_refl _)
  unfold cutM
  split
  ·simp only [MT.size]; omega
  ·split
   ·simp only [MT.size]; omega
   ·simp only [MT.size]; omega
def zrS (T : MT IP) (o : O3) (a : An) : MT IP := if a.err ≠ 0 then T else if o.1 = 1 then putM T (o.2.1, hgtF o.2.1) else if o.1 = 3 then cutM T o.2.1 else T
def zrT (z : List (O3 × An)) : MT IP := z.foldl (fun T p => zrS T p.1 p.2) .nil
theorem zrT_snoc (z : List (O3 × An)) (k : Nat) (h : k < z.length) : zrT (z.take (k + 1)) = zrS (zrT (z.take k)) z[k].1 z[k].2 := by
 rw [List.take_succ_eq_append_getElem h, zrT, List.foldl_append]; rfl
theorem zrS_size (T : MT IP) (o : O3) (a : An) : (zrS T o a).size <= T.size + 1 := by
 unfold zrS
 split
 ·omega
 ·split
  ·exact putM_size _ _
  ·split
   ·have := cutM_size T o.2.1; omega
   ·omega
theorem zrT_size (z : List (O3 × An)) (k : Nat) (h : k <= z.length) : (zrT (z.take k)).size <= k := by
 induction k with
 | zero => simp [zrT, MT.size]
 | succ k ih => rw [zrT_snoc z k (by omega)]; have := zrS_size (zrT (z.take k)) z[k].1 z[k].2; have := ih (by omega); omega
def opsA (ops : List O3) : List (O3 × An) := ops.zip (runL ops).2
def zipRun (ops : List O3) : List IP × List An × Int := if ops.length > 300 then ([], [], 2) else ((zrT (opsA ops)).spotsBy Prod.fst 0, (runL ops).2, 0)
def ZuRel (z : List (O3 × An)) (w0 : World) (nt : TypeId) (rv iv : Value) (wr : World) : Prop := ∃ (k : Nat) (p : Option Addr) (F : List Nat), k <= z.length /\ iv = .int .i64 k /\ rv = .pointer p /\ MR wr nt ePair (zrT (z.take k)) p F /\ (∀ x ∈ F, w0.heap.size <= x) /\ Kp w0 wr
theorem ZmPost.own {nt : TypeId} {T' : MT IP} {F : List Nat} {w0 w w' : World} {e : Ending} (h : ZmPost nt T' F w e w') (hF : ∀ x ∈ F, w0.heap.size <= x) (hk : Kp w0 w) :
  ∃ p F', e = .returned (.pointer p) /\ MR w' nt ePair T' p F' /\ (∀ x ∈ F', w0.heap.size <= x) /\ Kp w0 w' := by
 obtain ⟨p, F', h1, h2, h3, h4⟩ := h
 have hz := hk.size
 refine ⟨p, F', h1, h2, fun x hx => ?_, h4.kp hk hF⟩
 rcases h3 x hx with h | h
 ·exact hF x h
 ·omega
theorem zipRun_any (ops : List O3) (v : Value) (w : World) (hr : RD w eOp v ops) (hdb : DTb w) : Calls Tryz.prog 82 #[v] w (RunPost (zipRun ops) w) := by
 obtain ⟨A, c, rfl, hc, hm⟩ := hr.shape
 have HR := hide hr
 have HRU := hide (fun W v h => run_any ops v W h)
 have HDB := hide hdb
 clear hr hdb
 by_cases hlen : ops.length > 300
 ·have h1 : runOf ops = ([], [], 2) := by rw [runOf, if_pos hlen]
  have H1 : Hid (zipRun ops = ([], [], 2)) := hide (by rw [zipRun, if_pos hlen])
  rw [h1] at HRU
  clear h1
  go_enter Tryz.func82, Tryz.ntmps82
  go_wp2_with fail
  with_reducible refine (HRU.out _ _ HR.out).mono ?_
  rintro e w1 ⟨v1, u1, rfl, hr1, hu1, hb1⟩
  obtain ⟨A1, c1, rfl, _, _⟩ := hr1.shape
  obtain ⟨A2, c2, rfl, _, _⟩ := hu1.shape
  clear hr1 hu1
  go_wp2
  go_ret3
  exact ⟨_, _, by rw [H1.out]; rfl, by rw [H1.out]; exact RD.nil, by rw [H1.out]; exact RD.nil, hb1⟩
 ·have h1 : runOf ops = ((runL ops).1, (runL ops).2, 0) := by rw [runOf, if_neg hlen]
  have H1 : Hid (zipRun ops = ((zrT (opsA ops)).spotsBy Prod.fst 0, (runL ops).2, 0)) := hide (by rw [zipRun, if_neg hlen])
  have hal := runL_len ops ops.length (Nat.le_refl _)
  rw [List.take_length] at hal
  have hzl : (opsA ops).length = ops.length := by rw [opsA, List.length_zip, hal]; omega
  have hzk : ∀ k (h : k < (opsA ops).length) (h1 : k < ops.length) (h2 : k < (runL ops).2.length), (opsA ops)[k] = (ops[k], (runL ops).2[k]) := fun k h h1 h2 => by simp [opsA]
  obtain ⟨z, hz⟩ : ∃ z, z = opsA ops := ⟨_, rfl⟩
  rw [<- hz] at H1 hzl
  have HZK : Hid (∀ k (h : k < z.length) (h1 : k < ops.length) (h2 : k < (runL ops).2.length), z[k] = (ops[k], (runL ops).2[k])) := hide (by rw [hz]; exact hzk)
  rw [h1] at HRU
  obtain ⟨an, han⟩ : ∃ a, a = (runL ops).2 := ⟨_, rfl⟩
  rw [<- han] at HRU H1 HZK hal
  have HZL := hide hzl
  have HAL := hide hal
  clear h1 hz hzk hzl hal han
  go_enter Tryz.func82, Tryz.ntmps82
  go_wp2_with fail
  with_reducible refine (HRU.out _ _ HR.out).mono ?_
  rintro e w1 ⟨v1, u1, rfl, hr1, hu1, hb1⟩
  obtain ⟨A1, c1, rfl, _, _⟩ := hr1.shape
  obtain ⟨A2, c2, rfl, hc2, hm2⟩ := hu1.shape
  have k1 : Kp w w1 := hb1
  have HK1 := hide k1
  have HU := hide hu1
  have hcc : an.length <= 9223372036854775807 := by have h := hc2; simp only at h; omega
  clear hr1 hu1 hb1 k1
  go_wp2
  go_loopw [8, 22] (ZuRel z w1 245) (fun _ i _ => z.length - (intOf i).toNat)
  case atStart => exact ⟨0, none, [], by omega, rfl, rfl, MR.nil, by simp, Kp.refl _⟩
  case round =>
   obtain ⟨k, p, F, hk, rfl, rfl, hmr, hF, hkp⟩ := hrel
   have hsz := zrT_size z k hk
   have HMR := hide hmr
   have HFF := hide hF
   have HKP := hide hkp
   clear hmr hF
   by_cases hlt : k < z.length
   ·have hko : k < ops.length := by rw [<- HZL.out]; exact hlt
    have hka : k < an.length := by rw [HAL.out]; exact hko
    have bka : (k : Int) < (an.length : Int) := by omega
    obtain ⟨b, o, rfl, _, x0, x1, x2⟩ := (HR.out.kp (HK1.out.trans hkp)).op hko
    obtain ⟨b2, o2, rfl, _, y0, _, _, _⟩ := (HU.out.kp hkp).ans hka
    have hst := zrT_snoc z k hlt
    rw [HZK.out k hlt hko hka] at hst
    simp only [zrS] at hst
    obtain ⟨T0, hT0⟩ : ∃ T0, T0 = zrT (z.take k) := ⟨_, rfl⟩
    obtain ⟨er, her⟩ : ∃ er, er = an[k].err := ⟨_, rfl⟩
    obtain ⟨⟨kd, ke, va⟩, hop⟩ : ∃ P, P = ops[k] := ⟨_, rfl⟩
    rw [<- hT0] at HMR hst
    rw [<- her] at y0 hst
    rw [<- hop] at x0 x1 x2 hst
    simp only at x0 x1 x2 hst
    have y0' := ((Kp.refl wr).alloc (o := .cells #[.int .i64 kd, .int .i64 ke, .int .i64 va] 82)).cell y0
    have HST := hide hst
    have HPU := hide (fun W (hk : Kp wr W) => zput_any T0 p F ke W (HMR.out.kp hk) (HDB.out.kp (HK1.out.trans (HKP.out.trans hk))))
    have HCU := hide (fun W (hk : Kp wr W) => zcut_any T0 p F ke W (HMR.out.kp hk))
    have KA : Kp wr (wr.alloc (.cells #[.int .i64 kd, .int .i64 ke, .int .i64 va] 82)) := (Kp.refl wr).alloc
    clear hT0 her hop hst hkp
    by_cases he : er = 0
    ·subst he
     by_cases h1 : kd = 1
     ·subst h1
      have HN : Hid (zrT (z.take (k + 1)) = putM T0 (ke, hgtF ke)) := hide (by rw [HST.out]; simp)
      obtain ⟨T1, hT1⟩ : ∃ T1, T1 = putM T0 (ke, hgtF ke) := ⟨_, rfl⟩
      rw [<- hT1] at HN HPU
      clear hT1
      go_wp2_with fail
      with_reducible refine (HPU.out _ KA).mono ?_
      intro e w2 hpost
      obtain ⟨p2, F2, rfl, m1, m2, m3⟩ := hpost.own HFF.out (HKP.out.trans KA)
      have M1 := hide m1
      have M2 := hide m2
      have M3 := hide m3
      clear hpost m1 m2 m3
      go_wp2
      go_roundw
      case rel => exact ⟨k + 1, p2, F2, by omega, by go_num, rfl, by rw [HN.out]; exact M1.out, M2.out, M3.out⟩
      case measure => simp [intOf]; omega
     ·have d2 : (kd == 1) = false := by simpa using h1
      by_cases h3 : kd = 3
      ·subst h3
       have HN : Hid (zrT (z.take (k + 1)) = cutM T0 ke) := hide (by rw [HST.out]; simp)
       obtain ⟨T1, hT1⟩ : ∃ T1, T1 = cutM T0 ke := ⟨_, rfl⟩
       rw [<- hT1] at HN HCU
       clear hT1
       go_wp2_with fail
       with_reducible refine (HCU.out _ KA).mono ?_
       intro e w2 hpost
       obtain ⟨p2, F2, rfl, m1, m2, m3⟩ := hpost.own HFF.out (HKP.out.trans KA)
       have M1 := hide m1
       have M2 := hide m2
       have M3 := hide m3
       clear hpost m1 m2 m3
       go_wp2
       go_roundw
       case rel => exact ⟨k + 1, p2, F2, by omega, by go_num, rfl, by rw [HN.out]; exact M1.out, M2.out, M3.out⟩
       case measure => simp [intOf]; omega
      ·have d3 : (kd == 3) = false := by simpa using h3
       have HN : Hid (zrT (z.take (k + 1)) = T0) := hide (by rw [HST.out]; simp [h1, h3])
       go_wp2
       go_roundw
       case rel => exact ⟨k + 1, p, F, by omega, by go_num, rfl, by rw [HN.out]; exact HMR.out.kp KA, HFF.out, HKP.out.trans KA⟩
       case measure => simp [intOf]; omega
    ·have d1 : (er != 0) = true := by simpa using he
     have HN : Hid (zrT (z.take (k + 1)) = T0) := hide (by rw [HST.out]; simp [he])
     go_wp2
     go_roundw
     case rel => exact ⟨k + 1, p, F, by omega, by go_num, rfl, by rw [HN.out]; exact HMR.out.kp KA, HFF.out, HKP.out.trans KA⟩
     case measure => simp [intOf]; omega
   ·have hkz : k = z.length := by omega
    subst hkz
    have hS : Hid (z.take z.length = z) := hide (by simp)
    have hlo : ¬ ((z.length : Int) < (ops.length : Int)) := by rw [HZL.out]; omega
    have HT := hide (zipTold_any (zrT (z.take z.length)) p F wr HMR.out (by have := HZL.out; omega))
    go_wp2_with fail
    with_reducible refine HT.out.mono ?_
    rintro e w2 ⟨v2, rfl, hr2, hb2⟩
    have HR2 := hide hr2
    have kk2 : Kp wr w2 := Kp.of hb2
    clear hr2 hb2
    go_wp2
    go_ret3
    exact ⟨_, _, by rw [H1.out]; rfl, by rw [H1.out]; have h := HR2.out; rwa [hS.out] at h, by rw [H1.out]; exact HU.out.kp (HKP.out.trans kk2), (HK1.out.trans (HKP.out.trans kk2)).bel⟩
end Go.Proofs.YtcljlnagpjilaaaGreatDoor
