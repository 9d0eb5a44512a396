/-
  hedgref.Goated: what it answers
-/
import Derived.Test.YtcljlnagpjilaaaGreatDoorG39
import Derived.Test.YtcljlnagpjilaaaGreatDoorG40
import Derived.Test.YtcljlnagpjilaaaGreatDoorG10

set_option linter.unusedVariables false
set_option linter.unusedSimpArgs false
set_option maxRecDepth 100000
set_option maxHeartbeats 8000000
namespace Go.Proofs.YtcljlnagpjilaaaGreatDoor
open Go.ChangeShapes Go.WideShapes Go.ChangeAt Go.RowKit
theorem gt_is (ops : List O3) (k : Nat) (hk : k < ops.length) (h2 : k < (runL ops).2.length) (he : ((runL ops).2[k]'h2).err = 0) :
  (ops[k].1 = 1 -> (((runL ops).2[k]'h2).is = true ↔ ops[k].2.1 ∈ kM (gtT ((opsZ ops).take k)).T)) /\ (ops[k].1 = 3 -> (((runL ops).2[k]'h2).is = true ↔ ops[k].2.1 ∈ kM (gtT ((opsZ ops).take k)).T)) := by
 have h := gt_step ops k (by omega)
 have ha := runL_ans ops k hk ops.length hk (Nat.le_refl _)
 simp only [List.take_length] at ha
 have ha' := ha h2
 have hoi := op_is (runL (ops.take k)).1 ops[k] h.right
 rw [<- ha', <- h.keys] at hoi
 exact ⟨fun h1 => ((hoi he).1 h1).1, (hoi he).2⟩
theorem gt_bounds (ops : List O3) (k : Nat) (hk : k <= ops.length) : GtOk (gtT ((opsZ ops).take k)) /\ (gtT ((opsZ ops).take k)).most <= 200 /\ (gtT ((opsZ ops).take k)).T.size <= 200 /\ (gtT ((opsZ ops).take k)).built <= 60 * k + 60 := by
 have h := gt_step ops k hk
 have hc := ct_small ops k hk
 have h1 := h.ok.le
 have h2 := h.ok.many
 have h3 := h.top
 have h4 := h.top2
 have hD := deepF_lt (ctT ((opsZ ops).take k)).top (by omega)
 have hw := h.work 17 (by omega)
 have hp : (gtT ((opsZ ops).take k)).built <= pot (gtT ((opsZ ops).take k)) := by unfold pot; omega
 exact ⟨h.ok, by omega, by omega, by omega⟩
def GgdRel (z : List (O3 × An)) (w : World) (tv mv bv iv : Value) (wr : World) : Prop :=
 ∃ (k : Nat) (p : Option Addr), k <= z.length /\ iv = .int .i64 k /\ tv = .pointer p /\ TR wr (skel (gtT (z.take k)).T) p /\ mv = .int .i64 ((gtT (z.take k)).most : Int) /\ bv = .int .i64 ((gtT (z.take k)).built : Int) /\ Kp w wr
def GgdPost (S : Gt) (w : World) (e : Ending) (w' : World) : Prop := ∃ p, e = .returned (.tuple #[.pointer p, .int .i64 (S.built : Int)]) /\ TR w' (skel S.T) p /\ Below w.heap.size w w'
theorem goated_any (ops : List O3) (hlen : ops.length <= 300) (v u : Value) (w : World) (hr : RD w eOp v ops) (ha : RD w eAns u (runL ops).2) : Calls Tryz.prog 59 #[v, u] w (GgdPost (gtT (opsZ ops)) w) := by
 have hal := runL_len ops ops.length (Nat.le_refl _)
 rw [List.take_length] at hal
 have hzl : (opsZ ops).length = ops.length := by rw [opsZ, List.length_zip, hal]; omega
 have hzk : ∀ k (h : k < (opsZ ops).length) (h1 : k < ops.length) (h2 : k < (runL ops).2.length), (opsZ ops)[k] = (ops[k], (runL ops).2[k]) := fun k h h1 h2 => by simp [opsZ]
 have his := fun k hk h2 he => gt_is ops k hk h2 he
 have hbd := fun k hk => gt_bounds ops k hk
 obtain ⟨z, hz⟩ : ∃ z, z = opsZ ops := ⟨_, rfl⟩
 rw [<- hz] at hzl hzk his hbd ⊢
 obtain ⟨an, han⟩ : ∃ a, a = (runL ops).2 := ⟨_, rfl⟩
 have HZK : Hid (∀ k (h : k < z.length) (h1 : k < ops.length) (h2 : k < an.length), z[k] = (ops[k], an[k])) := hide (by subst han; exact hzk)
 have HIS : Hid (∀ k (hk : k < ops.length) (h2 : k < an.length), (an[k]'h2).err = 0 -> (ops[k].1 = 1 -> ((an[k]'h2).is = true ↔ ops[k].2.1 ∈ kM (gtT (z.take k)).T)) /\ (ops[k].1 = 3 -> ((an[k]'h2).is = true ↔ ops[k].2.1 ∈ kM (gtT (z.take k)).T))) := hide (by subst han; exact his)
 rw [<- han] at hal ha
 have HBD := hide hbd
 have HZL := hide hzl
 have HAL := hide hal
 have HTL : Hid (z.take z.length = z) := hide (List.take_length)
 have HLEN := hide hlen
 obtain ⟨A, c, rfl, hc, hm⟩ := hr.shape
 obtain ⟨A2, c2, rfl, hc2, hm2⟩ := ha.shape
 have HR := hide hr
 have HU := hide ha
 have hcc : an.length <= 9223372036854775807 := by omega
 clear hal hzl hzk his hbd hz han hr ha hlen
 go_enter Tryz.func59, Tryz.ntmps59
 go_wp2
 go_loopw [6, 7, 8, 18] (GgdRel z w) (fun _ _ _ i _ => z.length - (intOf i).toNat)
 case atStart => exact ⟨0, none, by omega, rfl, rfl, rfl, rfl, rfl, Kp.refl _⟩
 case round =>
  obtain ⟨k, p, hk, rfl, rfl, ht, rfl, rfl, hkp⟩ := hrel
  by_cases hlt : k < z.length
  ·have hko : k < ops.length := by rw [<- HZL.out]; exact hlt
   have hka : k < an.length := by rw [HAL.out]; exact hko
   have dk : decide (k < ops.length) = true := by simp [hko]
   have bka : (k : Int) < (an.length : Int) := by omega
   have bk0 : (0 : Int) <= (k : Int) := by omega
   obtain ⟨b, o, rfl, _, x0, x1, x2⟩ := (HR.out.kp hkp).op hko
   obtain ⟨b2, o2, rfl, _, y0, y1, y2, y3⟩ := (HU.out.kp hkp).ans hka
   have kal := (Kp.refl wr).alloc (o := .cells #[.int .i64 ops[k].1, .int .i64 ops[k].2.1, .int .i64 ops[k].2.2] 82)
   have y0' := kal.cell y0
   have y1' := kal.cell y1
   have y2' := kal.cell y2
   have y3' := kal.cell y3
   have hst := gtT_snoc z k hlt
   rw [HZK.out k hlt hko hka] at hst
   simp only at hst
   have hisk := HIS.out k hko hka
   have hbdk := HBD.out k (by omega)
   have hkl := HLEN.out
   obtain ⟨S, hS⟩ : ∃ S, S = gtT (z.take k) := ⟨_, rfl⟩
   rw [<- hS] at hst hisk hbdk ht ⊢
   obtain ⟨aa, haa⟩ : ∃ aa, aa = an[k] := ⟨_, rfl⟩
   rw [<- haa] at hst hisk y0 y1 y2 y3 y0' y1' y2' y3'
   obtain ⟨oo, hoo⟩ : ∃ oo, oo = ops[k] := ⟨_, rfl⟩
   rw [<- hoo] at hst hisk x0 x1 x2 y0' y1' y2' y3'
   obtain ⟨er, ak, av, ib⟩ := aa
   obtain ⟨kd, ky, vl⟩ := oo
   simp only at hst hisk x0 x1 x2 y0 y1 y2 y3 y0' y1' y2' y3' ⊢
   obtain ⟨hok, hmo, hsz, hbu⟩ := hbdk
   have HT := hide ht
   have HKP := hide hkp
   have HOK := hide hok
   have HNB : Hid (S.most <= 200 /\ S.T.size <= 200 /\ S.built <= 100000 /\ S.many = S.T.size) := hide ⟨hmo, hsz, by omega, hok.many⟩
   clear hS haa hoo hkp ht kal hok hmo hsz hbu
   by_cases he : er = 0
   ·have d1 : (er != 0) = false := by simp [he]
    rw [gtS, if_neg (by simpa using he)] at hst
    obtain ⟨i1, i3⟩ := hisk he
    by_cases h1 : kd = 1
    ·have d2 : (kd == 1) = true := by simp [h1]
     have d3 : (kd == 3) = false := by simp; omega
     simp only at hst
     rw [if_pos h1] at hst
     cases ib with
     | true =>
      have hin := (i1 h1).1 rfl
      have HS : Hid (gtT (z.take (k + 1)) = S) := hide (by rw [hst]; unfold Gt.put; rw [if_pos hin])
      clear hst i1 i3 he h1 hisk hin
      go_wp2
      go_roundw
      case rel => exact ⟨k + 1, p, by omega, by go_num, rfl, by rw [HS.out]; exact HT.out.kp (by (exact Kp.auto)), by rw [HS.out], by rw [HS.out], HKP.out.trans (by (exact Kp.auto))⟩
      case measure => simp [intOf]; omega
     | false =>
      have hni : ky ∉ kM S.T := fun h => by have := (i1 h1).2 h; cases this
      have hT1 := ins_new_size S.T ky HOK.out.up hni
      have hup1 : Up (kM (ins S.T (ky, 0))) := by rw [kM_ins _ _ HOK.out.up]; exact up_ins HOK.out.up ky
      have hki : ky ∈ kM (ins S.T (ky, 0)) := by rw [kM_ins _ _ HOK.out.up]; simp [ksIns]
      have hli := lenT_ins S.T ky hni
      have hsk := skel_ins S.T (ky, 0)
      simp only at hsk
      have hnb := HNB.out
      obtain ⟨mo', hmo'⟩ : ∃ x, x = max S.most (S.many + 1) := ⟨_, rfl⟩
      have HPUT : Hid (gtT (z.take (k + 1)) = if lenT S.T ky <= deepF mo' then ⟨ins S.T (ky, 0), S.many + 1, mo', S.built⟩ else ⟨(fixT (ins S.T (ky, 0)) ky).1, S.many + 1, mo', S.built + (fixT (ins S.T (ky, 0)) ky).2.1⟩) := hide (by rw [hst]; unfold Gt.put; rw [if_neg hni, hmo'])
      obtain ⟨T1, hT1e⟩ : ∃ T1, T1 = ins S.T (ky, 0) := ⟨_, rfl⟩
      rw [<- hT1e] at hT1 hup1 hki hli hsk HPUT
      have HLF := hide (fun W (h : Kp wr W) => leaf_any (skel S.T) p ky W (HT.out.kp h))
      rw [hsk] at HLF
      have hmo2 : mo' <= 201 := by rw [hmo']; omega
      have hfs := fixT_size T1 ky
      have hfn : (fixT T1 ky).2.1 <= 201 := by
       have h9 : ∀ (t : MT IP) (k : Int), (fixT t k).2.1 <= t.size := by
        intro t
        induction t with
        | nil => intro k; simp [fixT]
        | node a l r i1 i2 =>
         intro k
         have j1 := i1 k
         have j2 := i2 k
         unfold fixT
         simp only [MT.size]
         split
         ·simp
         ·split
          ·split
           ·simp only; omega
           ·split
            ·simp only; omega
            ·simp
          ·split
           ·simp only; omega
           ·split
            ·simp only; omega
            ·simp
       have := h9 T1 ky
       omega
      have HIO := hide (fun p W h => inOrder_any (skel T1) p W h (by rw [skel_size]; omega))
      have hkl2 : (ksT (skel T1)).length = S.many + 1 := by rw [ksT_len, skel_size, hT1, hnb.2.2.2]
      have HDI := hide (fun p W h => depthIn_any T1 p ky W hup1 hki (by omega) h)
      rw [hli] at HDI
      have HDO := hide (fun W => deepestOf_any mo' (by omega) W)
      have HBA := hide (fun p W h => builtAnew_any T1 p ky W h (by omega))
      obtain ⟨L1, hL1⟩ : ∃ x, x = lenT S.T ky := ⟨_, rfl⟩
      obtain ⟨D1, hD1⟩ : ∃ x, x = deepF mo' := ⟨_, rfl⟩
      rw [<- hL1] at HPUT HDI
      rw [<- hD1] at HPUT HDO
      have v4 : max (S.most : Int) ((S.many : Int) + 1) = (mo' : Int) := by rw [hmo']; omega
      clear hst i1 i3 he h1 hisk hni hT1 hup1 hki hli hsk hnb hmo' hT1e hfs hL1 hD1
      go_wp2_with fail
      with_reducible refine (HLF.out _ ?_).mono ?_
      ·(exact Kp.auto)
      rintro e w6 ⟨p6, rfl, ht6, hb6⟩
      have kk6 : Kp wr w6 := by
       have := Kp.of hb6
       exact Kp.trans (by (exact Kp.auto)) this
      have q6 : w6.cell? ⟨wr.heap.size, 1, none⟩ = some (.int .i64 ky) := (Kp.of hb6).cell (((Kp.refl _).alloc).cell (cell_of_row _ _ 1 _ _ (0, 0) (heap_alloc_new wr _)))
      have HT6 := hide ht6
      clear ht6 hb6
      go_wp2_with fail
      with_reducible refine (HIO.out _ _ HT6.out).mono ?_
      rintro e w7 ⟨v7, rfl, ho7, hb7⟩
      have kk7 := Kp.of hb7
      obtain ⟨X7, Y7, rfl, _, _⟩ := ho7.rd.shape
      have q7 := kk7.cell q6
      clear ho7 hb7
      go_wp2_with fail
      with_reducible refine (HDI.out _ _ (HT6.out.kp kk7)).mono ?_
      rintro e w8 ⟨rfl, hb8⟩
      have kk8 := Kp.of hb8
      have q8 := kk8.cell q7
      clear hb8
      go_wp2_with fail
      with_reducible refine (HDO.out _).mono ?_
      rintro e w9 ⟨rfl, rfl⟩
      by_cases hLD : L1 <= D1
      ·have q1 : decide (D1 < L1) = false := decide_eq_false (by omega)
       have q2 : ¬ (D1 : Int) < (L1 : Int) := by omega
       have HS : Hid (gtT (z.take (k + 1)) = ⟨T1, S.many + 1, mo', S.built⟩) := hide (by rw [HPUT.out, if_pos hLD])
       clear hLD
       go_wp2
       go_roundw
       case rel => exact ⟨k + 1, p6, by omega, by go_num, rfl, by rw [HS.out]; exact HT6.out.kp (kk7.trans kk8), by rw [HS.out], by rw [HS.out], HKP.out.trans (kk6.trans (kk7.trans kk8))⟩
       case measure => simp [intOf]; omega
      ·have q1 : decide (D1 < L1) = true := decide_eq_true (by omega)
       have q2 : (D1 : Int) < (L1 : Int) := by omega
       have HS : Hid (gtT (z.take (k + 1)) = ⟨(fixT T1 ky).1, S.many + 1, mo', S.built + (fixT T1 ky).2.1⟩) := hide (by rw [HPUT.out, if_neg hLD])
       clear hLD
       go_wp2_with fail
       with_reducible refine (HBA.out _ _ (HT6.out.kp (kk7.trans kk8))).mono ?_
       rintro e w10 ⟨p10, rfl, ht10, hb10⟩
       have kk10 := Kp.of hb10
       have HT10 := hide ht10
       obtain ⟨fn, hfne⟩ : ∃ x, x = (fixT T1 ky).2.1 := ⟨_, rfl⟩
       rw [<- hfne] at HS hfn ⊢
       have v5 : IntKind.i64.wrap ((S.built : Int) + (fn : Int)) = ((S.built + fn : Nat) : Int) := by rw [IntWalk.i64_in _ (by have := HNB.out; omega)]; omega
       clear ht10 hb10 hfne
       go_wp2
       go_roundw
       case rel => exact ⟨k + 1, p10, by omega, by go_num, rfl, by rw [HS.out]; exact HT10.out, by rw [HS.out], by first | (rw [HS.out]; done) | (rw [HS.out]; first | rfl | go_num), HKP.out.trans (kk6.trans (kk7.trans (kk8.trans kk10)))⟩
       case measure => simp [intOf]; omega
    ·have d2 : (kd == 1) = false := by simp [h1]
     simp only at hst
     rw [if_neg h1] at hst
     by_cases h3 : kd = 3
     ·have d3 : (kd == 3) = true := by simp [h3]
      rw [if_pos h3] at hst
      cases ib with
      | false =>
       have hni : ky ∉ kM S.T := fun h => by have := (i3 h3).2 h; cases this
       have HS : Hid (gtT (z.take (k + 1)) = S) := hide (by rw [hst]; unfold Gt.cut; rw [if_pos hni])
       clear hst i1 i3 he h1 h3 hisk hni
       go_wp2
       go_roundw
       case rel => exact ⟨k + 1, p, by omega, by go_num, rfl, by rw [HS.out]; exact HT.out.kp (by (exact Kp.auto)), by rw [HS.out], by rw [HS.out], HKP.out.trans (by (exact Kp.auto))⟩
       case measure => simp [intOf]; omega
      | true =>
       have hin := (i3 h3).1 rfl
       have hds := del_sz S.T ky HOK.out.up hin
       have hnb := HNB.out
       have hsd := skel_del S.T ky HOK.out.up
       obtain ⟨m1, hm1⟩ : ∃ m1, S.many = m1 + 1 := ⟨S.many - 1, by omega⟩
       have hdm : (del S.T ky).size = m1 := by omega
       obtain ⟨P3, hP3⟩ : ∃ x, x = 3 * m1 := ⟨_, rfl⟩
       obtain ⟨Q2, hQ2⟩ : ∃ x, x = 2 * S.most := ⟨_, rfl⟩
       have HCUT : Hid (gtT (z.take (k + 1)) = if P3 < Q2 then ⟨evenT (kM (del S.T ky)), m1, m1, S.built + m1⟩ else ⟨del S.T ky, m1, S.most, S.built⟩) := hide (by
        rw [hst]
        unfold Gt.cut
        rw [if_neg (by simpa using hin), show S.many - 1 = m1 by omega, hP3, hQ2])
       obtain ⟨T1, hT1e⟩ : ∃ T1, T1 = del S.T ky := ⟨_, rfl⟩
       rw [<- hT1e] at hsd hdm HCUT
       have HUN := hide (fun W (h : Kp wr W) => unl_any (skel S.T) p ky W (HT.out.kp h))
       rw [hsd] at HUN
       have HIO := hide (fun p W h => inOrder_any (skel T1) p W h (by rw [skel_size]; omega))
       have hkl2 : (ksT (skel T1)).length = m1 := by rw [ksT_len, skel_size, hdm]
       have HKS : Hid (ksT (skel T1) = kM T1) := hide (ksT_skel T1)
       have HM1 : Hid (m1 <= 200) := hide (by omega)
       have v1 : IntKind.i64.wrap (3 * (m1 : Int)) = (P3 : Int) := by rw [IntWalk.i64_in _ (by omega)]; omega
       have v2 : IntKind.i64.wrap (2 * (S.most : Int)) = (Q2 : Int) := by rw [IntWalk.i64_in _ (by omega)]; omega
       have v3 : IntKind.i64.wrap ((S.built : Int) + (m1 : Int)) = ((S.built + m1 : Nat) : Int) := by rw [IntWalk.i64_in _ (by omega)]; omega
       clear hst i1 i3 he h1 h3 hisk hin hds hnb hsd hm1 hdm hP3 hQ2 hT1e
       go_wp2_with fail
       with_reducible refine (HUN.out _ ?_).mono ?_
       ·(exact Kp.auto)
       rintro e w6 ⟨p6, rfl, ht6, hb6⟩
       have kk6 : Kp wr w6 := by
        have := Kp.of hb6
        exact Kp.trans (by (exact Kp.auto)) this
       have HT6 := hide ht6
       clear ht6 hb6
       go_wp2_with fail
       with_reducible refine (HIO.out _ _ HT6.out).mono ?_
       rintro e w7 ⟨v7, rfl, ho7, hb7⟩
       have kk7 := Kp.of hb7
       obtain ⟨X7, Y7, rfl, _, _⟩ := ho7.rd.shape
       clear ho7 hb7
       by_cases hpq : P3 < Q2
       ·have q1 : decide (P3 < Q2) = true := decide_eq_true hpq
        have HS : Hid (gtT (z.take (k + 1)) = ⟨evenT (kM T1), m1, m1, S.built + m1⟩) := hide (by rw [HCUT.out, if_pos hpq])
        clear hpq
        go_wp2_with fail
        with_reducible refine (HIO.out _ _ (HT6.out.kp kk7)).mono ?_
        rintro e w8 ⟨v8, rfl, ho8, hb8⟩
        have kk8 := Kp.of hb8
        have HE8 := hide (evenTree_any (ksT (skel T1)).length _ v8 w8 (Nat.le_refl _) (by rw [hkl2]; have := HM1.out; omega) ho8.rd)
        clear ho8 hb8
        go_wp2_with fail
        with_reducible refine HE8.out.mono ?_
        rintro e w9 ⟨p9, rfl, ht9, hb9⟩
        have kk9 := Kp.of hb9
        have HT9 := hide ht9
        clear ht9 hb9
        go_wp2
        go_roundw
        case rel => exact ⟨k + 1, p9, by omega, by go_num, rfl, by rw [HS.out]; have h := HT9.out; rw [HKS.out] at h; exact h, by rw [HS.out], by first | (rw [HS.out]; done) | (rw [HS.out]; first | rfl | go_num), HKP.out.trans (kk6.trans (kk7.trans (kk8.trans kk9)))⟩
        case measure => simp [intOf]; omega
       ·have q1 : decide (P3 < Q2) = false := decide_eq_false hpq
        have HS : Hid (gtT (z.take (k + 1)) = ⟨T1, m1, S.most, S.built⟩) := hide (by rw [HCUT.out, if_neg hpq])
        clear hpq
        go_wp2
        go_roundw
        case rel => exact ⟨k + 1, p6, by omega, by go_num, rfl, by rw [HS.out]; exact HT6.out.kp kk7, by rw [HS.out], by rw [HS.out], HKP.out.trans (kk6.trans kk7)⟩
        case measure => simp [intOf]; omega
     ·have d3 : (kd == 3) = false := by simp [h3]
      rw [if_neg h3] at hst
      have HS : Hid (gtT (z.take (k + 1)) = S) := hide hst
      clear hst i1 i3 he h1 h3 hisk
      go_wp2
      go_roundw
      case rel => exact ⟨k + 1, p, by omega, by go_num, rfl, by rw [HS.out]; exact HT.out.kp (by (exact Kp.auto)), by rw [HS.out], by rw [HS.out], HKP.out.trans (by (exact Kp.auto))⟩
      case measure => simp [intOf]; omega
   ·have d1 : (er != 0) = true := by simp [he]
    have HS : Hid (gtT (z.take (k + 1)) = S) := hide (by rw [hst, gtS, if_pos (by simpa using he)])
    clear hst he hisk
    go_wp2
    go_roundw
    case rel => exact ⟨k + 1, p, by omega, by go_num, rfl, by rw [HS.out]; exact HT.out.kp (by (exact Kp.auto)), by rw [HS.out], by rw [HS.out], HKP.out.trans (by (exact Kp.auto))⟩
    case measure => simp [intOf]; omega
  ·obtain rfl : k = z.length := by omega
   have dk : decide (z.length < ops.length) = false := by have := HZL.out; simp; omega
   rw [HTL.out] at ht
   rw [HTL.out]
   have HT := hide ht
   clear ht
   go_wp2
   go_ret2
   exact ⟨p, rfl, HT.out, hkp.bel⟩
end Go.Proofs.YtcljlnagpjilaaaGreatDoor
