/-
  zip.cut, put: what they answer
  zip.put: what it answers
  zip.told, Run, Split, Merge: what they answer
  Rows that lie apart: what an append to one leaves of another
  The lesser and the other keys of a list, and a loop that parts them
  grow.sorted, grow.Sort: what they answer
  Plain laws
-/
import Derived.Test.YtcljlnagpjilaaaGreatDoorG21
import Derived.Test.YtcljlnagpjilaaaGreatDoorG18
import Derived.Test.YtcljlnagpjilaaaGreatDoorG1
import Derived.Test.YtcljlnagpjilaaaGreatDoorG10
import Derived.Test.YtcljlnagpjilaaaGreatDoorG2
import Derived.Test.YtcljlnagpjilaaaGreatDoorG19

set_option linter.unusedVariables false
set_option linter.unusedSimpArgs false
set_option maxRecDepth 100000
set_option maxHeartbeats 8000000
namespace Go.Proofs.YtcljlnagpjilaaaGreatDoor
open Go.ChangeShapes Go.WideShapes Go.ChangeAt Go.RowKit
theorem At_.kpZ {α : Type} {w w' : World} {nt : TypeId} {E : Enc α} {kf : α -> Int} {r0 : Addr} {T : MT α} {F : List Nat} {key : Int} {C : List (Fm α)} {q : Addr} {t : MT α} {p : Option Addr} {Fc Ft : List Nat} (h : At_ w nt E kf r0 T F key C q t p Fc Ft) (hk : Kp w w') (hr : r0.block < w.heap.size) : At_ w' nt E kf r0 T F key C q t p Fc Ft :=
 ⟨h.zp.kp hk hr, hk.cell h.cell, (hk.frozen (World.block_lt_of_cell? _ _ h.cell)).trans h.fz, h.mr.kp hk, h.dis, h.eq, h.dir, h.sub⟩
theorem At_.putG {α : Type} {w w1 : World} {nt : TypeId} {E : Enc α} {kf : α -> Int} {r0 : Addr} {T : MT α} {F : List Nat} {key : Int} {C : List (Fm α)} {q : Addr} {t : MT α} {p : Option Addr} {Fc Ft : List Nat} (h : At_ w nt E kf r0 T F key C q t p Fc Ft)
  (hr : r0.block ∉ F) (hrl : r0.block < w.heap.size) {G : Nat -> Prop} (hk : Kf G w w1) (hG : ∀ i ∈ Fc, ¬ G i) (hGr : ¬ G r0.block) {t' : MT α} {p' : Option Addr} {Ft' : List Nat} (hm : MR w1 nt E t' p' Ft') (hd : ∀ x ∈ Ft', x ∉ Fc) (hq : r0.block ∉ Ft') :
  ∃ p0 F0, (w1.setCell q (.pointer p')).cell? r0 = some (.pointer p0) /\ MR (w1.setCell q (.pointer p')) nt E (plug C t') p0 F0 /\ (∀ x ∈ F0, x ∈ Ft' ∨ x ∈ Fc) /\ Kf (fun i => G i ∨ i = r0.block ∨ i ∈ Fc) w (w1.setCell q (.pointer p')) := by
 have hfc : r0.block ∉ Fc := fun hx => hr (h.sub _ (.inr hx))
 have hqG : ¬ G q.block := by
  rcases h.zp.at_ with e | hx
  ·rw [e]; exact hGr
  ·exact hG _ hx
 have hqF : q.block ∉ Ft' := by
  rcases h.zp.at_ with e | hx
  ·rw [e]; exact hq
  ·exact fun h' => hd _ h' hx
 have hz1 := (h.zp.kf hk hGr hrl hG).store hfc p'
 have hqc : (w1.setCell q (.pointer p')).cell? q = some (.pointer p') := World.cell?_setCell_same' w1 q _ (by rw [hk.cell hqG h.cell]; rfl)
 obtain ⟨p0, F0, g1, g2, g3⟩ := hz1.close hqc (hm.set hqF) hd
 refine ⟨p0, F0, g1, g2, fun x hx => (g3 x).1 hx, (hk.mono fun i _ hi => .inl hi).set (.inl (.inr ?_))⟩
 rcases h.zp.at_ with e | hx
 ·exact .inl (by rw [e])
 ·exact .inr hx
def cutM : MT IP -> Int -> MT IP
 | .nil, _ => .nil
 | .node a l r, k => if k < a.1 then .node a (cutM l k) r else if a.1 < k then .node a l (cutM r k) else zipM l r
theorem cutM_on {f : Fm IP} {k : Int} (h : (f.left = true -> k < f.a.1) /\ (f.left = false -> f.a.1 < k)) (t : MT IP) : cutM (f.on t) k = f.on (cutM t k) := by
 obtain ⟨a, left, o⟩ := f
 cases left with
 | true => simp [Fm.on, cutM, h.1 rfl]
 | false =>
  have := h.2 rfl
  simp only at this
  simp [Fm.on, cutM, this, show ¬ k < a.1 by omega]
theorem cutM_plug {k : Int} : ∀ (C : List (Fm IP)) (t : MT IP), Dir Prod.fst C k -> cutM (plug C t) k = plug C (cutM t k)
 | [], _, _ => rfl
 | f :: C, t, h => by
  have h1 := cutM_plug C (f.on t) (fun x hx => h x (by simp [hx]))
  rw [plug, h1, cutM_on (h f (by simp)), plug]
def putM : MT IP -> IP -> MT IP
 | .nil, p => .node p .nil .nil
 | .node a l r, p => if ov a p then (if p.1 = a.1 then .node a l r else if p.1 < a.1 then .node a (putM l p) r else .node a l (putM r p)) else if a.1 = p.1 then .node a l r else .node p (unz (.node a l r) p.1).1 (unz (.node a l r) p.1).2
theorem putM_on {f : Fm IP} {p : IP} (h : (f.left = true -> p.1 < f.a.1) /\ (f.left = false -> f.a.1 < p.1)) (ho : ov f.a p = true) (t : MT IP) : putM (f.on t) p = f.on (putM t p) := by
 obtain ⟨a, left, o⟩ := f
 simp only at ho h
 cases left with
 | true =>
  have := h.1 rfl
  simp [Fm.on, putM, ho, this, show ¬ p.1 = a.1 by omega]
 | false =>
  have := h.2 rfl
  simp [Fm.on, putM, ho, this, show ¬ p.1 < a.1 by omega, show ¬ p.1 = a.1 by omega]
theorem putM_plug {p : IP} : ∀ (C : List (Fm IP)) (t : MT IP), Dir Prod.fst C p.1 -> (∀ f ∈ C, ov f.a p = true) -> putM (plug C t) p = plug C (putM t p)
 | [], _, _, _ => rfl
 | f :: C, t, h, ho => by
  have h1 := putM_plug C (f.on t) (fun x hx => h x (by simp [hx])) (fun x hx => ho x (by simp [hx]))
  rw [plug, h1, putM_on (h f (by simp)) (ho f (by simp)), plug]
def ZmPost (nt : TypeId) (T' : MT IP) (F : List Nat) (w : World) (e : Ending) (w' : World) : Prop :=
 ∃ p F', e = .returned (.pointer p) /\ MR w' nt ePair T' p F' /\ (∀ x ∈ F', x ∈ F ∨ w.heap.size <= x) /\ Kf (fun i => i ∈ F) w w'
def ZcRel (nt : TypeId) (w : World) (r0 : Addr) (T : MT IP) (F : List Nat) (key : Int) (qv : Value) (wr : World) : Prop :=
 ∃ C q t p Fc Ft, qv = .pointer (some q) /\ At_ wr nt ePair Prod.fst r0 T F key C q t p Fc Ft /\ r0.block < wr.heap.size /\ Kp w wr
theorem zcut_any (T : MT IP) (p0 : Option Addr) (F : List Nat) (key : Int) (w : World) (hm : MR w 245 ePair T p0 F) : Calls Tryz.prog 136 #[.pointer p0, .int .i64 key] w (ZmPost 245 (cutM T key) F w) := by
 have hFl := hm.lt
 have HRF : Hid ((⟨w.heap.size, 0, none⟩ : Addr).block ∉ F) := hide (fun h => by have := hFl _ h; simp at this)
 have HS : Hid (At_ (w.alloc (.cells #[.pointer p0] 194)) 245 ePair Prod.fst ⟨w.heap.size, 0, none⟩ T F key [] ⟨w.heap.size, 0, none⟩ T p0 [] F) := hide (At_.start key (by simp [go_sem]) (by simp [go_sem]) (hm.kp (Kp.refl w).alloc))
 have HFL := hide hFl
 clear hm hFl
 go_enter Tryz.func136, Tryz.ntmps136
 go_wp2
 go_loopw [5] (ZcRel 245 w ⟨w.heap.size, 0, none⟩ T F key) (szAt 245 ePair)
 case atStart => exact ⟨_, _, _, _, _, _, rfl, HS.out, by simp, (Kp.refl w).alloc⟩
 case round =>
  obtain ⟨C, q, t, p, Fc, Ft, rfl, ha, hrl, hkp⟩ := hrel
  have HA := hide ha
  have c0 := ha.cell
  have hm := ha.mr
  have HRL := hide hrl
  have HKP := hide hkp
  clear ha hkp
  cases p with
  | none =>
   obtain ⟨rfl, rfl⟩ := hm.of_none
   obtain ⟨p1, F1, k1, k2, k3⟩ := HA.out.zp.close HA.out.cell hm HA.out.dis
   have HK2 := hide k2
   have HK3 := hide k3
   have hT : Hid (cutM T key = plug C .nil) := hide (by rw [HA.out.eq, cutM_plug C _ HA.out.dir]; rfl)
   clear hm k2 k3
   go_wp2
   exact bodyPost_ret (v := .pointer p1) (by simp [results, Tryz.results136, go_sem]) rfl ⟨p1, F1, rfl, by rw [hT.out]; exact HK2.out, fun x hx => .inl (HA.out.sub x ((HK3.out x).1 hx)), Kf.of HKP.out⟩
  | some ad =>
   obtain ⟨a, l, r, b, pl, pr, Fl, Fr, rfl, rfl, rfl, hb, g1, g2, g3, hl, hr⟩ := hm.of_some
   have ck : wr.cell? ⟨b, 0, none⟩ = some (.int .i64 a.1) := hb.cell 0
   have HMS := hide (szAt_eq c0 hm)
   have HML := hide (szAt_eq (hb.link true) hl)
   have HMR := hide (szAt_eq (hb.link false) hr)
   have HD := hide (HA.out.down hb g1 g2 g3 hl hr)
   have cl : wr.cell? ⟨b, 2, none⟩ = some (.pointer pl) := hb.link true
   have cr : wr.cell? ⟨b, 3, none⟩ = some (.pointer pr) := hb.link false
   have HL := hide hl
   have HR := hide hr
   have G1 := hide g1
   have G2 := hide g2
   have G3 := hide g3
   clear hm hb g1 g2 g3 hl hr
   rcases Int.lt_trichotomy key a.1 with hk | hk | hk
   ·have d1 : (a.1 != key) = true := by rw [bne_iff_ne]; omega
    have HN := hide (HD.out.1 hk)
    clear HMR
    go_wp2
    go_roundw
    case rel => exact ⟨_, _, _, _, _, _, rfl, HN.out, HRL.out, HKP.out⟩
    case measure => exact Nat.lt_of_lt_of_le (Nat.lt_of_le_of_lt (Nat.le_of_eq HML.out) (by simp only [MT.size]; omega)) (Nat.le_of_eq HMS.out.symm)
   ·have d1 : (a.1 != key) = false := by simp [hk]
    have HT : Hid (cutM T key = plug C (zipM l r)) := hide (by rw [HA.out.eq, cutM_plug C _ HA.out.dir, cutM, if_neg (by omega), if_neg (by omega)])
    have HZ := hide (fun W (h1 : Kp wr W) => zipped_any _ l r pl pr Fl Fr W (Nat.le_refl _) (HL.out.kp h1) (HR.out.kp h1) G3.out)
    have hqn : ¬ (q.block ∈ Fl ∨ q.block ∈ Fr) := by
     rcases HA.out.zp.at_ with e | hx
     ·rw [e]
      rintro (h | h)
      ·exact HRF.out (HA.out.sub _ (.inl (by simp [h])))
      ·exact HRF.out (HA.out.sub _ (.inl (by simp [h])))
     ·rintro (h | h)
      ·exact HA.out.dis _ (by simp [h]) hx
      ·exact HA.out.dis _ (by simp [h]) hx
    have HQN := hide hqn
    have KW0 := Kp.refl wr
    have f0 := HA.out.fz
    have hql := World.block_lt_of_cell? _ _ c0
    clear hk hqn HML HMR HMS HD
    go_wp2_with fail
    go_region_law (go_simp; (go_at_call 175); (with_reducible refine (HZ.out _ ?_).mono ?_); (go_split_ands; (exact Kp.auto)); rintro e w2 ⟨p2, F2, rfl, hm2, hF2, hk2⟩; have c2 := hk2.cell HQN.out c0; have f2 := (hk2.frozen hql HQN.out).trans f0)
    all_goals
     have hdc : ∀ i, i ∈ Fl ∨ i ∈ Fr -> i ∉ Fc := fun i h => HA.out.dis i (by simp only [List.mem_cons, List.mem_append]; exact .inr h)
     have hdF : ∀ i, i ∈ Fl ∨ i ∈ Fr -> i ∈ F := fun i h => HA.out.sub i (.inl (by simp only [List.mem_cons, List.mem_append]; exact .inr h))
     obtain ⟨p1, F1, q1, q2, q3, q4⟩ := (HA.out.kpZ (Kp.refl wr).drew HRL.out).putG HRF.out HRL.out hk2 (fun i hi h => hdc i h hi) (fun h => HRF.out (hdF _ h)) hm2 (fun x hx => hdc x (hF2 x hx)) (fun h => HRF.out (hdF _ (hF2 _ h)))
     have HQ2 := hide q2
     have HQ3 := hide q3
     have HQ4 := hide q4
     have HDF := hide hdF
     have HHF := hide hF2
     clear q2 q3 q4 hdc hdF hm2 hF2 hk2
     go_wp2
     refine bodyPost_ret (v := .pointer p1) (by simp [results, Tryz.results136, go_sem]) rfl ⟨p1, F1, rfl, by rw [HT.out]; exact HQ2.out, fun x hx => .inl ?_, ?_⟩
     ·rcases HQ3.out x hx with h | h
      ·exact HDF.out x (HHF.out x h)
      ·exact HA.out.sub x (.inr h)
     ·exact (Kf.of (F := fun i => i ∈ F) (Kp.drew HKP.out)).trans HQ4.out (fun i hi h => by
       rcases h with h | h | h
       ·exact HDF.out i h
       ·rw [h] at hi; simp at hi
       ·exact HA.out.sub i (.inr h))
   ·have d1 : (a.1 != key) = true := by rw [bne_iff_ne]; omega
    have d2 : decide (key < a.1) = false := by simp; omega
    have HN := hide (HD.out.2 hk)
    clear HML
    go_wp2
    go_roundw
    case rel => exact ⟨_, _, _, _, _, _, rfl, HN.out, HRL.out, HKP.out⟩
    case measure => exact Nat.lt_of_lt_of_le (Nat.lt_of_le_of_lt (Nat.le_of_eq HMR.out) (by simp only [MT.size]; omega)) (Nat.le_of_eq HMS.out.symm)
def ZpRel (nt : TypeId) (w : World) (r0 : Addr) (bx : Nat) (T : MT IP) (F : List Nat) (P : IP) (qv : Value) (wr : World) : Prop :=
 ∃ C q t p Fc Ft, qv = .pointer (some q) /\ At_ wr nt ePair Prod.fst r0 T F P.1 C q t p Fc Ft /\ (∀ f ∈ C, ov f.a P = true) /\ BC wr bx nt (nodeC ePair P none none) /\ r0.block < wr.heap.size /\ Kp w wr
theorem zput_any (T : MT IP) (p0 : Option Addr) (F : List Nat) (key : Int) (w : World) (hm : MR w 245 ePair T p0 F) (hdb : DTb w) : Calls Tryz.prog 135 #[.pointer p0, .int .i64 key] w (ZmPost 245 (putM T (key, hgtF key)) F w) := by
 have hFl := hm.lt
 obtain ⟨h, hh⟩ : ∃ h, h = hgtF key := ⟨_, rfl⟩
 have HHG := hide (fun W hd => height_any key W hd)
 rw [<- hh] at HHG ⊢
 obtain ⟨r0, hr0⟩ : ∃ r0 : Addr, r0 = ⟨w.heap.size, 0, none⟩ := ⟨_, rfl⟩
 have HR0 := hide hr0
 have HRF : Hid (r0.block ∉ F) := hide (fun h => by have := hFl _ h; rw [hr0] at this; simp at this)
 have HBF : Hid (w.heap.size + 1 ∉ F) := hide (fun h => by have := hFl _ h; omega)
 have kk : Kp w ((w.alloc (.cells #[.pointer p0] 194)).alloc (.cells #[.int .i64 key, .int .i64 h, .pointer none, .pointer none] 245)) := (Kp.refl w).alloc.alloc
 have HS : Hid (At_ ((w.alloc (.cells #[.pointer p0] 194)).alloc (.cells #[.int .i64 key, .int .i64 h, .pointer none, .pointer none] 245)) 245 ePair Prod.fst r0 T F key [] r0 T p0 [] F) := hide (At_.start key (by rw [hr0]; exact ((Kp.refl _).alloc).cell (by simp [go_sem])) (by rw [hr0]; simp [go_sem]) (hm.kp kk))
 have HBX : Hid (BC ((w.alloc (.cells #[.pointer p0] 194)).alloc (.cells #[.int .i64 key, .int .i64 h, .pointer none, .pointer none] 245)) (w.heap.size + 1) 245 (nodeC ePair (key, h) none none)) := hide (by
  have h9 := BC.new (w.alloc (.cells #[.pointer p0] 194)) 245 (nodeC ePair (key, h) none none)
  rw [show (w.alloc (.cells #[.pointer p0] 194)).heap.size = w.heap.size + 1 by simp] at h9
  exact h9)
 have HDB : Hid (DTb (w.alloc (.cells #[.pointer p0] 194))) := hide (hdb.kp (Kp.refl w).alloc)
 have HKK := hide kk
 have hrb : Hid (r0.block = w.heap.size) := hide (by rw [hr0])
 clear hm hFl hdb kk hh
 go_enter Tryz.func135, Tryz.ntmps135
 go_wp2_with fail
 rw [<- HR0.out]
 with_reducible refine (HHG.out _ HDB.out).mono ?_
 rintro e w1 ⟨rfl, rfl⟩
 go_wp2
 go_loopw [6] (ZpRel 245 w r0 (w.heap.size + 1) T F (key, h)) (szAt 245 ePair)
 case atStart => exact ⟨[], r0, T, p0, [], F, by rw [HR0.out], HS.out, (fun f hf => absurd hf (by simp)), HBX.out, by rw [hrb.out]; simp <;> omega, HKK.out⟩
 case round =>
  obtain ⟨C, q, t, p, Fc, Ft, rfl, ha, hov, hbx, hrl, hkp⟩ := hrel
  have HA := hide ha
  have HOVC := hide hov
  have c0 := ha.cell
  have hm := ha.mr
  have HPL : Hid (∀ t', putM t (key, h) = t' -> putM T (key, h) = plug C t') := hide (fun t' e => by rw [ha.eq, putM_plug C _ ha.dir hov, e])
  cases p with
  | none =>
   obtain ⟨rfl, rfl⟩ := hm.of_none
   have HMW : Hid (MR wr 245 ePair .nil none []) := hide hm
   have HAW := HA
   have HBW := hide hbx
   have HRW := hide hrl
   have HKW := hide hkp
   have HPM : Hid (putM T (key, h) = plug C (.node (key, h) (unz .nil key).1 (unz .nil key).2)) := hide (HPL.out _ rfl)
   clear hm ha hov hbx hrl hkp
   go_wp2_with fail
   with_reducible refine (unzipped_any (.nil : MT IP) (none : Option Addr) [] key _ HMW.out).mono ?_
   rintro e w3 ⟨pa, pb, Fa, Fb, rfl, ha3, hb3, s1, s2, s3, hk3⟩
   have hbt : w.heap.size + 1 ∉ ([] : List Nat) := fun h => HBF.out (HAW.out.sub _ (.inl h))
   have hbc : w.heap.size + 1 ∉ Fc := fun h => HBF.out (HAW.out.sub _ (.inr h))
   have hrt : r0.block ∉ ([] : List Nat) := fun h => HRF.out (HAW.out.sub _ (.inl h))
   have hrc : r0.block ∉ Fc := fun h => HRF.out (HAW.out.sub _ (.inr h))
   have hrn : r0.block ≠ w.heap.size + 1 := by rw [hrb.out]; omega
   have hb3' : BC w3 (w.heap.size + 1) 245 (nodeC ePair (key, h) none none) := HBW.out.kf hk3 hbt
   have c2 : w3.cell? ⟨w.heap.size + 1, 2, none⟩ = some (.pointer none) := hb3'.link true
   have c3 : w3.cell? ⟨w.heap.size + 1, 3, none⟩ = some (.pointer none) := hb3'.link false
   have f2 := hb3'.frozen 2
   have f3 := hb3'.frozen 3
   have hqt : q.block ∉ ([] : List Nat) := by
    rcases HAW.out.zp.at_ with e | hx
    ·rw [e]; exact hrt
    ·exact fun h => HAW.out.dis _ h hx
   have hqb : q.block ≠ w.heap.size + 1 := by
    rcases HAW.out.zp.at_ with e | hx
    ·rw [e]; exact hrn
    ·intro h; rw [h] at hx; exact hbc hx
   have c0q := hk3.cell hqt HAW.out.cell
   have f0q := (hk3.frozen (World.block_lt_of_cell? _ _ HAW.out.cell) hqt).trans HAW.out.fz
   have q1 : ∀ (j : Nat) (u : Value) (X : World), (X.setCell ⟨w.heap.size + 1, j, none⟩ u).cell? q = X.cell? q := fun j u X => World.cell?_setCell_other _ _ _ _ (fun e => hqb (by rw [<- e]))
   have hXB : BC ((w3.setCell ⟨w.heap.size + 1, 2, none⟩ (.pointer pa)).setCell ⟨w.heap.size + 1, 3, none⟩ (.pointer pb)) (w.heap.size + 1) 245 (nodeC ePair (key, h) pa pb) := (hb3'.set (j := 2)).set (j := 3)
   have hba : w.heap.size + 1 ∉ Fa := fun h => hbt (s1 _ h)
   have hbb : w.heap.size + 1 ∉ Fb := fun h => hbt (s2 _ h)
   have hXM := MR.mk hXB hba hbb s3 ((ha3.set (q := ⟨w.heap.size + 1, 2, none⟩) (u := .pointer pa) hba).set (q := ⟨w.heap.size + 1, 3, none⟩) (u := .pointer pb) hba) ((hb3.set (q := ⟨w.heap.size + 1, 2, none⟩) (u := .pointer pa) hbb).set (q := ⟨w.heap.size + 1, 3, none⟩) (u := .pointer pb) hbb)
   have hXK : Kf (fun i => i ∈ ([] : List Nat) ∨ i = w.heap.size + 1) wr ((w3.setCell ⟨w.heap.size + 1, 2, none⟩ (.pointer pa)).setCell ⟨w.heap.size + 1, 3, none⟩ (.pointer pb)) := ((hk3.mono (fun i _ h => .inl h)).set (.inl (.inr rfl))).set (.inl (.inr rfl))
   have hsubF : ∀ x ∈ (w.heap.size + 1) :: (Fa ++ Fb), x ∈ ([] : List Nat) ∨ x = w.heap.size + 1 := fun x hx => by
    simp only [List.mem_cons, List.mem_append] at hx
    rcases hx with h | h | h
    ·exact .inr h
    ·exact .inl (s1 x h)
    ·exact .inl (s2 x h)
   obtain ⟨p1, F1, z1, z2, z3, z4⟩ := HAW.out.putG HRF.out HRW.out hXK (fun i hi h => h.elim (fun h => HAW.out.dis i h hi) (fun h => hbc (by rw [<- h]; exact hi))) (fun h => h.elim hrt hrn) hXM (fun x hx hx' => (hsubF x hx).elim (fun h => HAW.out.dis x h hx') (fun h => hbc (by rw [<- h]; exact hx'))) (fun hx => (hsubF _ hx).elim hrt hrn)
   have HZ2 := hide z2
   have HZ3 := hide z3
   have HZ4 := hide z4
   have HSF := hide hsubF
   rw [HR0.out] at z1
   clear hbt hbc hrt hrc hrn hb3' hqt hqb hXB hba hbb hXM hXK hsubF z2 z3 z4 ha3 hb3 s1 s2 s3 hk3
   go_wp2
   refine bodyPost_ret (v := .pointer p1) (by simp [results, Tryz.results135, go_sem]) rfl ⟨p1, F1, rfl, by rw [HPM.out]; exact HZ2.out, fun x hx => ?_, ?_⟩
   ·rcases HZ3.out x hx with h | h
    ·rcases HSF.out x h with h | h
     ·exact .inl (HAW.out.sub x (.inl h))
     ·exact .inr (by omega)
    ·exact .inl (HAW.out.sub x (.inr h))
   ·exact (Kf.of (F := fun i => i ∈ F) HKW.out).trans HZ4.out (fun i hi h => by
     rcases h with (h | h) | h | h
     ·exact HAW.out.sub i (.inl h)
     ·omega
     ·rw [hrb.out] at h; omega
     ·exact HAW.out.sub i (.inr h))
  | some ad =>
   obtain ⟨a, l, r, b, pl, pr, Fl, Fr, rfl, rfl, rfl, hb, g1, g2, g3, hl, hr⟩ := hm.of_some
   have x0 : wr.cell? ⟨b, 0, none⟩ = some (.int .i64 a.1) := hb.cell 0
   have x1 : wr.cell? ⟨b, 1, none⟩ = some (.int .i64 a.2) := hb.cell 1
   have HOV := hide (over_any b (w.heap.size + 1) a (key, h) wr x0 x1 (hbx.cell 0) (hbx.cell 1))
   have HMS := hide (szAt_eq c0 hm)
   have HB := hide hb
   have HL := hide hl
   have HR := hide hr
   have HD := hide (fun W (hk : Kp wr W) => (ha.kpZ hk hrl).down (hb.kp hk) g1 g2 g3 (hl.kp hk) (hr.kp hk))
   have HBX := hide hbx
   have HRL := hide hrl
   have HKP := hide hkp
   have HM := hide hm
   have hrw : ∀ W, Kp wr W -> r0.block < W.heap.size := fun W hk => Nat.lt_of_lt_of_le hrl hk.size
   have HRWW := hide hrw
   clear hb hl hr g1 g2 g3 ha hbx hrl hkp hm hrw
   cases hov2 : ov a (key, h) with
   | true =>
    rw [hov2] at HOV
    have HOC2 : Hid (∀ f ∈ (⟨a, true, r⟩ :: C : List (Fm IP)), ov f.a (key, h) = true) := hide (fun f hf => by rcases List.mem_cons.1 hf with rfl | hf; exact hov2; exact hov f hf)
    have HOC3 : Hid (∀ f ∈ (⟨a, false, l⟩ :: C : List (Fm IP)), ov f.a (key, h) = true) := hide (fun f hf => by rcases List.mem_cons.1 hf with rfl | hf; exact hov2; exact hov f hf)
    clear hov
    go_wp2_with fail
    with_reducible refine HOV.out.mono ?_
    rintro e w2 ⟨rfl, hb2⟩
    have kk2 : Kp wr w2 := Kp.of hb2
    have x0' := kk2.cell x0
    have c0' := kk2.cell c0
    clear hb2 x0 x1 c0
    have HKW := hide (HKP.out.trans kk2)
    have HAW := hide (HA.out.kpZ kk2 HRL.out)
    rcases Int.lt_trichotomy key a.1 with hk | hk | hk
    ·have d1 : (key == a.1) = false := by simp; omega
     have HN := hide ((HD.out _ kk2).1 hk)
     have HML := hide (szAt_eq ((HB.out.kp kk2).link true) (HL.out.kp kk2))
     go_wp2
     go_roundw
     case rel => exact ⟨_, _, _, _, _, _, rfl, HN.out, HOC2.out, HBX.out.kp kk2, HRWW.out _ kk2, HKW.out⟩
     case measure => exact Nat.lt_of_lt_of_le (Nat.lt_of_le_of_lt (Nat.le_of_eq HML.out) (by simp only [MT.size]; omega)) (Nat.le_of_eq HMS.out.symm)
    ·have d1 : (key == a.1) = true := by simp [hk]
     have HPM : Hid (putM T (key, h) = plug C (.node a l r)) := hide (HPL.out _ (by rw [putM, if_pos hov2, if_pos hk]))
     clear hk
     obtain ⟨p1, F1, z1, z2, z3⟩ := HAW.out.zp.close HAW.out.cell HAW.out.mr HAW.out.dis
     have HZ2 := hide z2
     have HZ3 := hide z3
     rw [HR0.out] at z1
     clear z2 z3
     go_wp2
     exact bodyPost_ret (v := .pointer p1) (by simp [results, Tryz.results135, go_sem]) rfl ⟨p1, F1, rfl, by rw [HPM.out]; exact HZ2.out, fun x hx => .inl (HAW.out.sub x ((HZ3.out x).1 hx)), Kf.of HKW.out⟩
    ·have d1 : (key == a.1) = false := by simp; omega
     have d2 : decide (key < a.1) = false := by simp; omega
     have HN := hide ((HD.out _ kk2).2 hk)
     have HMR := hide (szAt_eq ((HB.out.kp kk2).link false) (HR.out.kp kk2))
     go_wp2
     go_roundw
     case rel => exact ⟨_, _, _, _, _, _, rfl, HN.out, HOC3.out, HBX.out.kp kk2, HRWW.out _ kk2, HKW.out⟩
     case measure => exact Nat.lt_of_lt_of_le (Nat.lt_of_le_of_lt (Nat.le_of_eq HMR.out) (by simp only [MT.size]; omega)) (Nat.le_of_eq HMS.out.symm)
   | false =>
    rw [hov2] at HOV
    clear hov
    go_wp2_with fail
    with_reducible refine HOV.out.mono ?_
    rintro e w2 ⟨rfl, hb2⟩
    have kk2 : Kp wr w2 := Kp.of hb2
    have x0' := kk2.cell x0
    have c0' := kk2.cell c0
    clear hb2 x0 x1 c0
    have HKW := hide (HKP.out.trans kk2)
    have HAW := hide (HA.out.kpZ kk2 HRL.out)
    by_cases hk : a.1 = key
    ·have d1 : (a.1 == key) = true := by simp [hk]
     have HPM : Hid (putM T (key, h) = plug C (.node a l r)) := hide (HPL.out _ (by rw [putM, if_neg (by simp [hov2]), if_pos hk]))
     clear hk
     obtain ⟨p1, F1, z1, z2, z3⟩ := HAW.out.zp.close HAW.out.cell HAW.out.mr HAW.out.dis
     have HZ2 := hide z2
     have HZ3 := hide z3
     rw [HR0.out] at z1
     clear z2 z3
     go_wp2
     exact bodyPost_ret (v := .pointer p1) (by simp [results, Tryz.results135, go_sem]) rfl ⟨p1, F1, rfl, by rw [HPM.out]; exact HZ2.out, fun x hx => .inl (HAW.out.sub x ((HZ3.out x).1 hx)), Kf.of HKW.out⟩
    ·have d1 : (a.1 == key) = false := by simpa using hk
     have HPM : Hid (putM T (key, h) = plug C (.node (key, h) (unz (.node a l r) key).1 (unz (.node a l r) key).2)) := hide (HPL.out _ (by rw [putM, if_neg (by simp [hov2]), if_neg hk]))
     have HMW := hide (HM.out.kp kk2)
     have HBW := hide (HBX.out.kp kk2)
     have HRW := hide (HRWW.out _ kk2)
     clear hk
     go_wp2_with fail
     with_reducible refine (unzipped_any (.node a l r : MT IP) (some ⟨b, 0, none⟩ : Option Addr) (b :: (Fl ++ Fr)) key _ HMW.out).mono ?_
     rintro e w3 ⟨pa, pb, Fa, Fb, rfl, ha3, hb3, s1, s2, s3, hk3⟩
     have hbt : w.heap.size + 1 ∉ ((b :: (Fl ++ Fr)) : List Nat) := fun h => HBF.out (HAW.out.sub _ (.inl h))
     have hbc : w.heap.size + 1 ∉ Fc := fun h => HBF.out (HAW.out.sub _ (.inr h))
     have hrt : r0.block ∉ ((b :: (Fl ++ Fr)) : List Nat) := fun h => HRF.out (HAW.out.sub _ (.inl h))
     have hrc : r0.block ∉ Fc := fun h => HRF.out (HAW.out.sub _ (.inr h))
     have hrn : r0.block ≠ w.heap.size + 1 := by rw [hrb.out]; omega
     have hb3' : BC w3 (w.heap.size + 1) 245 (nodeC ePair (key, h) none none) := HBW.out.kf hk3 hbt
     have c2 : w3.cell? ⟨w.heap.size + 1, 2, none⟩ = some (.pointer none) := hb3'.link true
     have c3 : w3.cell? ⟨w.heap.size + 1, 3, none⟩ = some (.pointer none) := hb3'.link false
     have f2 := hb3'.frozen 2
     have f3 := hb3'.frozen 3
     have hqt : q.block ∉ ((b :: (Fl ++ Fr)) : List Nat) := by
      rcases HAW.out.zp.at_ with e | hx
      ·rw [e]; exact hrt
      ·exact fun h => HAW.out.dis _ h hx
     have hqb : q.block ≠ w.heap.size + 1 := by
      rcases HAW.out.zp.at_ with e | hx
      ·rw [e]; exact hrn
      ·intro h; rw [h] at hx; exact hbc hx
     have c0q := hk3.cell hqt HAW.out.cell
     have f0q := (hk3.frozen (World.block_lt_of_cell? _ _ HAW.out.cell) hqt).trans HAW.out.fz
     have q1 : ∀ (j : Nat) (u : Value) (X : World), (X.setCell ⟨w.heap.size + 1, j, none⟩ u).cell? q = X.cell? q := fun j u X => World.cell?_setCell_other _ _ _ _ (fun e => hqb (by rw [<- e]))
     have hXB : BC ((w3.setCell ⟨w.heap.size + 1, 2, none⟩ (.pointer pa)).setCell ⟨w.heap.size + 1, 3, none⟩ (.pointer pb)) (w.heap.size + 1) 245 (nodeC ePair (key, h) pa pb) := (hb3'.set (j := 2)).set (j := 3)
     have hba : w.heap.size + 1 ∉ Fa := fun h => hbt (s1 _ h)
     have hbb : w.heap.size + 1 ∉ Fb := fun h => hbt (s2 _ h)
     have hXM := MR.mk hXB hba hbb s3 ((ha3.set (q := ⟨w.heap.size + 1, 2, none⟩) (u := .pointer pa) hba).set (q := ⟨w.heap.size + 1, 3, none⟩) (u := .pointer pb) hba) ((hb3.set (q := ⟨w.heap.size + 1, 2, none⟩) (u := .pointer pa) hbb).set (q := ⟨w.heap.size + 1, 3, none⟩) (u := .pointer pb) hbb)
     have hXK : Kf (fun i => i ∈ ((b :: (Fl ++ Fr)) : List Nat) ∨ i = w.heap.size + 1) w2 ((w3.setCell ⟨w.heap.size + 1, 2, none⟩ (.pointer pa)).setCell ⟨w.heap.size + 1, 3, none⟩ (.pointer pb)) := ((hk3.mono (fun i _ h => .inl h)).set (.inl (.inr rfl))).set (.inl (.inr rfl))
     have hsubF : ∀ x ∈ (w.heap.size + 1) :: (Fa ++ Fb), x ∈ ((b :: (Fl ++ Fr)) : List Nat) ∨ x = w.heap.size + 1 := fun x hx => by
      simp only [List.mem_cons, List.mem_append] at hx
      rcases hx with h | h | h
      ·exact .inr h
      ·exact .inl (s1 x h)
      ·exact .inl (s2 x h)
     obtain ⟨p1, F1, z1, z2, z3, z4⟩ := HAW.out.putG HRF.out HRW.out hXK (fun i hi h => h.elim (fun h => HAW.out.dis i h hi) (fun h => hbc (by rw [<- h]; exact hi))) (fun h => h.elim hrt hrn) hXM (fun x hx hx' => (hsubF x hx).elim (fun h => HAW.out.dis x h hx') (fun h => hbc (by rw [<- h]; exact hx'))) (fun hx => (hsubF _ hx).elim hrt hrn)
     have HZ2 := hide z2
     have HZ3 := hide z3
     have HZ4 := hide z4
     have HSF := hide hsubF
     rw [HR0.out] at z1
     clear hbt hbc hrt hrc hrn hb3' hqt hqb hXB hba hbb hXM hXK hsubF z2 z3 z4 ha3 hb3 s1 s2 s3 hk3
     go_wp2
     refine bodyPost_ret (v := .pointer p1) (by simp [results, Tryz.results135, go_sem]) rfl ⟨p1, F1, rfl, by rw [HPM.out]; exact HZ2.out, fun x hx => ?_, ?_⟩
     ·rcases HZ3.out x hx with h | h
      ·rcases HSF.out x h with h | h
       ·exact .inl (HAW.out.sub x (.inl h))
       ·exact .inr (by omega)
      ·exact .inl (HAW.out.sub x (.inr h))
     ·exact (Kf.of (F := fun i => i ∈ F) HKW.out).trans HZ4.out (fun i hi h => by
       rcases h with (h | h) | h | h
       ·exact HAW.out.sub i (.inl h)
       ·omega
       ·rw [hrb.out] at h; omega
       ·exact HAW.out.sub i (.inr h))
theorem zipTold_any (t : MT IP) (p : Option Addr) (F : List Nat) (w : World) (hm : MR w 245 ePair t p F) (hs : t.size <= 1000) : Calls Tryz.prog 137 #[.pointer p] w (RetRD ePair (t.spotsBy Prod.fst 0) w) := by
 have HO := hide (OB.new (B := w.heap.size) (st := 72) (e := 108) (E := ePair) w (Nat.le_refl _))
 have HC := hide (zip_spots_any w.heap.size w.heap.size (Nat.le_refl _) t p F 0 [] _ (hm.kp (Kp.refl w).alloc) (by omega) (by omega) (by simp; omega) HO.out (by simp))
 clear hm
 go_enter Tryz.func137, Tryz.ntmps137
 go_wp2_with fail
 with_reducible refine HC.out.mono ?_
 rintro e w1 ⟨rfl, ho1, hk1⟩
 have k1 := hk1.none (Kp.refl w).alloc (Nat.le_refl _) (by simp [go_sem])
 rw [List.nil_append] at ho1
 obtain ⟨u, hb, hu, hn⟩ := ho1
 have g0 := hb.cell 0
 obtain ⟨A3, N3, c3, rfl⟩ := hu.rd.slice
 have HU := hide hu.rd
 have K1 := hide k1
 clear hk1 hb hu hn k1
 go_wp2
 go_ret
 exact ⟨_, rfl, HU.out, K1.out.bel⟩
theorem unz_size : ∀ (t : MT IP) (k : Int), (unz t k).1.size + (unz t k).2.size = t.size
 | .nil, _ => rfl
 | .node a l r, k => by
  have h1 := unz_size l k
  have h2 := unz_size r k
  unfold unz
  split
  ·simp only [MT.size]; omega
  ·simp only [MT.size]; omega
theorem zipM_size : ∀ (n : Nat) (t u : MT IP), t.size + u.size <= n -> (zipM t u).size = t.size + u.size
 | _, .nil, u, _ => by rw [zipM]; simp [MT.size]
 | _, .node a l r, .nil, _ => by rw [zipM_nil]; simp [MT.size]
 | 0, .node a l r, .node c x y, h => by simp [MT.size] at h
 | n + 1, .node a l r, .node c x y, h => by
  simp only [MT.size] at h
  have h1 := zipM_size n r (.node c x y) (by simp only [MT.size]; omega)
  have h2 := zipM_size n (.node a l r) x (by simp only [MT.size]; omega)
  simp only [MT.size] at h1 h2
  rw [zipM_node]
  split
  ·simp only [MT.size]; omega
  ·simp only [MT.size]; omega
theorem putM_size : ∀ (t : MT IP) (p : IP), (putM t p).size <= t.size + 1
 | .nil, p => by simp [putM, MT.size]
 | .node a l r, p => by
  have h1 := putM_size l p
  have h2 := putM_size r p
  have h3 := unz_size (.node a l r) p.1
  unfold putM
  split
  ·split
   ·omega
   ·split <;> simp only [MT.size] <;> omega
  ·split
   ·omega
   ·simp only [MT.size] at h3 ⊢; omega
theorem cutM_size : ∀ (t : MT IP) (k : Int), (cutM t k).size <= t.size
 | .nil, _ => by simp [cutM]
 | .node a l r, k => by
  have h1 := cutM_size l k
  have h2 := cutM_size r k
  have h3 := zipM_size _ l r (Nat.le_refl _)
  unfold cutM
  split
  ·simp only [MT.size]; omega
  ·split
   ·simp only [MT.size]; omega
   ·simp only [MT.size]; omega
def zrS (T : MT IP) (o : O3) (a : An) : MT IP := if a.err ≠ 0 then T else if o.1 = 1 then putM T (o.2.1, hgtF o.2.1) else if o.1 = 3 then cutM T o.2.1 else T
def zrT (z : List (O3 × An)) : MT IP := z.foldl (fun T p => zrS T p.1 p.2) .nil
theorem zrT_snoc (z : List (O3 × An)) (k : Nat) (h : k < z.length) : zrT (z.take (k + 1)) = zrS (zrT (z.take k)) z[k].1 z[k].2 := by
 rw [List.take_succ_eq_append_getElem h, zrT, List.foldl_append]; rfl
theorem zrS_size (T : MT IP) (o : O3) (a : An) : (zrS T o a).size <= T.size + 1 := by
 unfold zrS
 split
 ·omega
 ·split
  ·exact putM_size _ _
  ·split
   ·have := cutM_size T o.2.1; omega
   ·omega
theorem zrT_size (z : List (O3 × An)) (k : Nat) (h : k <= z.length) : (zrT (z.take k)).size <= k := by
 induction k with
 | zero => simp [zrT, MT.size]
 | succ k ih => rw [zrT_snoc z k (by omega)]; have := zrS_size (zrT (z.take k)) z[k].1 z[k].2; have := ih (by omega); omega
def opsA (ops : List O3) : List (O3 × An) := ops.zip (runL ops).2
def zipRun (ops : List O3) : List IP × List An × Int := if ops.length > 300 then ([], [], 2) else ((zrT (opsA ops)).spotsBy Prod.fst 0, (runL ops).2, 0)
def ZuRel (z : List (O3 × An)) (w0 : World) (nt : TypeId) (rv iv : Value) (wr : World) : Prop := ∃ (k : Nat) (p : Option Addr) (F : List Nat), k <= z.length /\ iv = .int .i64 k /\ rv = .pointer p /\ MR wr nt ePair (zrT (z.take k)) p F /\ (∀ x ∈ F, w0.heap.size <= x) /\ Kp w0 wr
theorem ZmPost.own {nt : TypeId} {T' : MT IP} {F : List Nat} {w0 w w' : World} {e : Ending} (h : ZmPost nt T' F w e w') (hF : ∀ x ∈ F, w0.heap.size <= x) (hk : Kp w0 w) :
  ∃ p F', e = .returned (.pointer p) /\ MR w' nt ePair T' p F' /\ (∀ x ∈ F', w0.heap.size <= x) /\ Kp w0 w' := by
 obtain ⟨p, F', h1, h2, h3, h4⟩ := h
 have hz := hk.size
 refine ⟨p, F', h1, h2, fun x hx => ?_, h4.kp hk hF⟩
 rcases h3 x hx with h | h
 ·exact hF x h
 ·omega
theorem zipRun_any (ops : List O3) (v : Value) (w : World) (hr : RD w eOp v ops) (hdb : DTb w) : Calls Tryz.prog 82 #[v] w (RunPost (zipRun ops) w) := by
 obtain ⟨A, c, rfl, hc, hm⟩ := hr.shape
 have HR := hide hr
 have HRU := hide (fun W v h => run_any ops v W h)
 have HDB := hide hdb
 clear hr hdb
 by_cases hlen : ops.length > 300
 ·have h1 : runOf ops = ([], [], 2) := by rw [runOf, if_pos hlen]
  have H1 : Hid (zipRun ops = ([], [], 2)) := hide (by rw [zipRun, if_pos hlen])
  rw [h1] at HRU
  clear h1
  go_enter Tryz.func82, Tryz.ntmps82
  go_wp2_with fail
  with_reducible refine (HRU.out _ _ HR.out).mono ?_
  rintro e w1 ⟨v1, u1, rfl, hr1, hu1, hb1⟩
  obtain ⟨A1, c1, rfl, _, _⟩ := hr1.shape
  obtain ⟨A2, c2, rfl, _, _⟩ := hu1.shape
  clear hr1 hu1
  go_wp2
  go_ret3
  exact ⟨_, _, by rw [H1.out]; rfl, by rw [H1.out]; exact RD.nil, by rw [H1.out]; exact RD.nil, hb1⟩
 ·have h1 : runOf ops = ((runL ops).1, (runL ops).2, 0) := by rw [runOf, if_neg hlen]
  have H1 : Hid (zipRun ops = ((zrT (opsA ops)).spotsBy Prod.fst 0, (runL ops).2, 0)) := hide (by rw [zipRun, if_neg hlen])
  have hal := runL_len ops ops.length (Nat.le_refl _)
  rw [List.take_length] at hal
  have hzl : (opsA ops).length = ops.length := by rw [opsA, List.length_zip, hal]; omega
  have hzk : ∀ k (h : k < (opsA ops).length) (h1 : k < ops.length) (h2 : k < (runL ops).2.length), (opsA ops)[k] = (ops[k], (runL ops).2[k]) := fun k h h1 h2 => by simp [opsA]
  obtain ⟨z, hz⟩ : ∃ z, z = opsA ops := ⟨_, rfl⟩
  rw [<- hz] at H1 hzl
  have HZK : Hid (∀ k (h : k < z.length) (h1 : k < ops.length) (h2 : k < (runL ops).2.length), z[k] = (ops[k], (runL ops).2[k])) := hide (by rw [hz]; exact hzk)
  rw [h1] at HRU
  obtain ⟨an, han⟩ : ∃ a, a = (runL ops).2 := ⟨_, rfl⟩
  rw [<- han] at HRU H1 HZK hal
  have HZL := hide hzl
  have HAL := hide hal
  clear h1 hz hzk hzl hal han
  go_enter Tryz.func82, Tryz.ntmps82
  go_wp2_with fail
  with_reducible refine (HRU.out _ _ HR.out).mono ?_
  rintro e w1 ⟨v1, u1, rfl, hr1, hu1, hb1⟩
  obtain ⟨A1, c1, rfl, _, _⟩ := hr1.shape
  obtain ⟨A2, c2, rfl, hc2, hm2⟩ := hu1.shape
  have k1 : Kp w w1 := hb1
  have HK1 := hide k1
  have HU := hide hu1
  have hcc : an.length <= 9223372036854775807 := by have h := hc2; simp only at h; omega
  clear hr1 hu1 hb1 k1
  go_wp2
  go_loopw [8, 22] (ZuRel z w1 245) (fun _ i _ => z.length - (intOf i).toNat)
  case atStart => exact ⟨0, none, [], by omega, rfl, rfl, MR.nil, by simp, Kp.refl _⟩
  case round =>
   obtain ⟨k, p, F, hk, rfl, rfl, hmr, hF, hkp⟩ := hrel
   have hsz := zrT_size z k hk
   have HMR := hide hmr
   have HFF := hide hF
   have HKP := hide hkp
   clear hmr hF
   by_cases hlt : k < z.length
   ·have hko : k < ops.length := by rw [<- HZL.out]; exact hlt
    have hka : k < an.length := by rw [HAL.out]; exact hko
    have bka : (k : Int) < (an.length : Int) := by omega
    obtain ⟨b, o, rfl, _, x0, x1, x2⟩ := (HR.out.kp (HK1.out.trans hkp)).op hko
    obtain ⟨b2, o2, rfl, _, y0, _, _, _⟩ := (HU.out.kp hkp).ans hka
    have hst := zrT_snoc z k hlt
    rw [HZK.out k hlt hko hka] at hst
    simp only [zrS] at hst
    obtain ⟨T0, hT0⟩ : ∃ T0, T0 = zrT (z.take k) := ⟨_, rfl⟩
    obtain ⟨er, her⟩ : ∃ er, er = an[k].err := ⟨_, rfl⟩
    obtain ⟨⟨kd, ke, va⟩, hop⟩ : ∃ P, P = ops[k] := ⟨_, rfl⟩
    rw [<- hT0] at HMR hst
    rw [<- her] at y0 hst
    rw [<- hop] at x0 x1 x2 hst
    simp only at x0 x1 x2 hst
    have y0' := ((Kp.refl wr).alloc (o := .cells #[.int .i64 kd, .int .i64 ke, .int .i64 va] 82)).cell y0
    have HST := hide hst
    have HPU := hide (fun W (hk : Kp wr W) => zput_any T0 p F ke W (HMR.out.kp hk) (HDB.out.kp (HK1.out.trans (HKP.out.trans hk))))
    have HCU := hide (fun W (hk : Kp wr W) => zcut_any T0 p F ke W (HMR.out.kp hk))
    have KA : Kp wr (wr.alloc (.cells #[.int .i64 kd, .int .i64 ke, .int .i64 va] 82)) := (Kp.refl wr).alloc
    clear hT0 her hop hst hkp
    by_cases he : er = 0
    ·subst he
     by_cases h1 : kd = 1
     ·subst h1
      have HN : Hid (zrT (z.take (k + 1)) = putM T0 (ke, hgtF ke)) := hide (by rw [HST.out]; simp)
      obtain ⟨T1, hT1⟩ : ∃ T1, T1 = putM T0 (ke, hgtF ke) := ⟨_, rfl⟩
      rw [<- hT1] at HN HPU
      clear hT1
      go_wp2_with fail
      with_reducible refine (HPU.out _ KA).mono ?_
      intro e w2 hpost
      obtain ⟨p2, F2, rfl, m1, m2, m3⟩ := hpost.own HFF.out (HKP.out.trans KA)
      have M1 := hide m1
      have M2 := hide m2
      have M3 := hide m3
      clear hpost m1 m2 m3
      go_wp2
      go_roundw
      case rel => exact ⟨k + 1, p2, F2, by omega, by go_num, rfl, by rw [HN.out]; exact M1.out, M2.out, M3.out⟩
      case measure => simp [intOf]; omega
     ·have d2 : (kd == 1) = false := by simpa using h1
      by_cases h3 : kd = 3
      ·subst h3
       have HN : Hid (zrT (z.take (k + 1)) = cutM T0 ke) := hide (by rw [HST.out]; simp)
       obtain ⟨T1, hT1⟩ : ∃ T1, T1 = cutM T0 ke := ⟨_, rfl⟩
       rw [<- hT1] at HN HCU
       clear hT1
       go_wp2_with fail
       with_reducible refine (HCU.out _ KA).mono ?_
       intro e w2 hpost
       obtain ⟨p2, F2, rfl, m1, m2, m3⟩ := hpost.own HFF.out (HKP.out.trans KA)
       have M1 := hide m1
       have M2 := hide m2
       have M3 := hide m3
       clear hpost m1 m2 m3
       go_wp2
       go_roundw
       case rel => exact ⟨k + 1, p2, F2, by omega, by go_num, rfl, by rw [HN.out]; exact M1.out, M2.out, M3.out⟩
       case measure => simp [intOf]; omega
      ·have d3 : (kd == 3) = false := by simpa using h3
       have HN : Hid (zrT (z.take (k + 1)) = T0) := hide (by rw [HST.out]; simp [h1, h3])
       go_wp2
       go_roundw
       case rel => exact ⟨k + 1, p, F, by omega, by go_num, rfl, by rw [HN.out]; exact HMR.out.kp KA, HFF.out, HKP.out.trans KA⟩
       case measure => simp [intOf]; omega
    ·have d1 : (er != 0) = true := by simpa using he
     have HN : Hid (zrT (z.take (k + 1)) = T0) := hide (by rw [HST.out]; simp [he])
     go_wp2
     go_roundw
     case rel => exact ⟨k + 1, p, F, by omega, by go_num, rfl, by rw [HN.out]; exact HMR.out.kp KA, HFF.out, HKP.out.trans KA⟩
     case measure => simp [intOf]; omega
   ·have hkz : k = z.length := by omega
    subst hkz
    have hS : Hid (z.take z.length = z) := hide (by simp)
    have hlo : ¬ ((z.length : Int) < (ops.length : Int)) := by rw [HZL.out]; omega
    have HT := hide (zipTold_any (zrT (z.take z.length)) p F wr HMR.out (by have := HZL.out; omega))
    go_wp2_with fail
    with_reducible refine HT.out.mono ?_
    rintro e w2 ⟨v2, rfl, hr2, hb2⟩
    have HR2 := hide hr2
    have kk2 : Kp wr w2 := Kp.of hb2
    clear hr2 hb2
    go_wp2
    go_ret3
    exact ⟨_, _, by rw [H1.out]; rfl, by rw [H1.out]; have h := HR2.out; rwa [hS.out] at h, by rw [H1.out]; exact HU.out.kp (HKP.out.trans kk2), (HK1.out.trans (HKP.out.trans kk2)).bel⟩
def Ap (n : Nat) (u v : Value) : Prop := 0 < n -> u.ownBlock = none ∨ u.ownBlock ≠ v.ownBlock
theorem RD.app {α : Type} {E : Enc α} {w w' : World} {v u : Value} {l : List α} (h : RD w E v l) (hg : w.grownBy w' u.ownBlock) (ha : Ap l.length v u) : RD w' E v l := by
 cases l with
 | nil =>
  obtain ⟨A, c, rfl, h1, h2, hn, h3⟩ := h
  exact ⟨A, c, rfl, h1, h2, hn, fun h => by simp at h⟩
 | cons a t =>
  have h4 := ha (by simp)
  obtain ⟨A, c, rfl, h1, h2, hn, h3⟩ := h
  obtain ⟨b, o, rfl, hb, hc⟩ := h3 (by simp)
  refine RD.grownR hg ?_ ⟨_, c, rfl, h1, h2, hn, h3⟩
  rcases h4 with h4 | h4
  ·simp [Value.ownBlock] at h4
  ·exact h4
theorem Ap.next {n : Nat} {w : World} {v u u' : Value} (h : Ap n v u) (hu : u'.ownBlock = u.ownBlock ∨ u'.ownBlock = some w.heap.size) (hv : 0 < n -> Lo w.heap.size v) : Ap n v u' := fun h0 => by
 rcases hu with hu | hu
 ·rw [hu]; exact h h0
 ·rw [hu]
  cases hb : v.ownBlock with
  | none => exact .inl rfl
  | some k =>
   refine .inr fun e => ?_
   injection e with e
   have := hv h0 k hb
   omega
end Go.Proofs.YtcljlnagpjilaaaGreatDoor
