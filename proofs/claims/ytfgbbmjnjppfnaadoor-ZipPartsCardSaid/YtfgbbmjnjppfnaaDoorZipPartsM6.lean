/-
  zip.cut, put: what they answer. Conditions: the tree is written as MR says; of put: the table of math/bits holds what it is laid with (DTb).
  zip.put: what it answers. Conditions: the tree is written as MR says; the table of math/bits holds what it is laid with (DTb).
  copy, append within the capacity, clear, append of zeros: at slices of elements of several cells, in a block that is known whole; slices.overlaps of two blocks. Conditions: those of each law.
  A store into the second cell of a pair of an owned slice. Conditions: none.
  plain.find and what it calls (cmp.Compare, slices.BinarySearchFunc at pairs): what they answer. Conditions: the list reads as l (RD); its keys rise.
-/
import Derived.Test.YtfgbbmjnjppfnaaDoorZipPartsM5
import Derived.Test.YtfgbbmjnjppfnaaDoorZipPartsM2
import Derived.Laws.CopyOwn
import Derived.Lib.AppendZerosOnto
import Derived.Lib.Overlaps
import Derived.Lib.SliceRun
import Derived.Test.YtfgbbmjnjppfnaaDoorZipPartsM4
import Derived.Test.YtfgbbmjnjppfnaaDoorZipPartsM1

namespace Go.Proofs.YtfgbbmjnjppfnaaDoor
open Go.ChangeShapes Go.WideShapes Go.ChangeAt Go.RowKit
set_option linter.unusedVariables false
set_option linter.unusedSimpArgs false

theorem At_.kpZ {α : Type} {w w' : World} {nt : TypeId} {E : Enc α} {kf : α → Int} {r0 : Addr} {T : MT α} {F : List Nat} {key : Int} {C : List (Fm α)} {q : Addr} {t : MT α} {p : Option Addr} {Fc Ft : List Nat} (h : At_ w nt E kf r0 T F key C q t p Fc Ft) (hk : Kp w w') (hr : r0.block < w.heap.size) : At_ w' nt E kf r0 T F key C q t p Fc Ft :=
  ⟨h.zp.kp hk hr, hk.cell h.cell, (hk.frozen (World.block_lt_of_cell? _ _ h.cell)).trans h.fz, h.mr.kp hk, h.dis, h.eq, h.dir, h.sub⟩
/-- The store into a link, behind a call that writes elsewhere. -/
theorem At_.putG {α : Type} {w w1 : World} {nt : TypeId} {E : Enc α} {kf : α → Int} {r0 : Addr} {T : MT α} {F : List Nat} {key : Int} {C : List (Fm α)} {q : Addr} {t : MT α} {p : Option Addr} {Fc Ft : List Nat} (h : At_ w nt E kf r0 T F key C q t p Fc Ft)
    (hr : r0.block ∉ F) (hrl : r0.block < w.heap.size) {G : Nat → Prop} (hk : Kf G w w1) (hG : ∀ i ∈ Fc, ¬ G i) (hGr : ¬ G r0.block) {t' : MT α} {p' : Option Addr} {Ft' : List Nat} (hm : MR w1 nt E t' p' Ft') (hd : ∀ x ∈ Ft', x ∉ Fc) (hq : r0.block ∉ Ft') :
    ∃ p0 F0, (w1.setCell q (.pointer p')).cell? r0 = some (.pointer p0) ∧ MR (w1.setCell q (.pointer p')) nt E (plug C t') p0 F0 ∧ (∀ x ∈ F0, x ∈ Ft' ∨ x ∈ Fc) ∧ Kf (fun i => G i ∨ i = r0.block ∨ i ∈ Fc) w (w1.setCell q (.pointer p')) := by
  have hfc : r0.block ∉ Fc := fun hx => hr (h.sub _ (.inr hx))
  have hqG : ¬ G q.block := by
    rcases h.zp.at_ with e | hx
    · rw [e]; exact hGr
    · exact hG _ hx
  have hqF : q.block ∉ Ft' := by
    rcases h.zp.at_ with e | hx
    · rw [e]; exact hq
    · exact fun h' => hd _ h' hx
  have hz1 := (h.zp.kf hk hGr hrl hG).store hfc p'
  have hqc : (w1.setCell q (.pointer p')).cell? q = some (.pointer p') := World.cell?_setCell_same' w1 q _ (by rw [hk.cell hqG h.cell]; rfl)
  obtain ⟨p0, F0, g1, g2, g3⟩ := hz1.close hqc (hm.set hqF) hd
  refine ⟨p0, F0, g1, g2, fun x hx => (g3 x).1 hx, (hk.mono fun i _ hi => .inl hi).set (.inl (.inr ?_))⟩
  rcases h.zp.at_ with e | hx
  · exact .inl (by rw [e])
  · exact .inr hx
def cutM : MT IP → Int → MT IP
  | .nil, _ => .nil
  | .node a l r, k => if k < a.1 then .node a (cutM l k) r else if a.1 < k then .node a l (cutM r k) else zipM l r
theorem cutM_on {f : Fm IP} {k : Int} (h : (f.left = true → k < f.a.1) ∧ (f.left = false → f.a.1 < k)) (t : MT IP) : cutM (f.on t) k = f.on (cutM t k) := by
  obtain ⟨a, left, o⟩ := f
  cases left with
  | true => simp [Fm.on, cutM, h.1 rfl]
  | false =>
    have := h.2 rfl
    simp only at this
    simp [Fm.on, cutM, this, show ¬ k < a.1 by omega]
theorem cutM_plug {k : Int} : ∀ (C : List (Fm IP)) (t : MT IP), Dir Prod.fst C k → cutM (plug C t) k = plug C (cutM t k)
  | [], _, _ => rfl
  | f :: C, t, h => by
    have h1 := cutM_plug C (f.on t) (fun x hx => h x (by simp [hx]))
    rw [plug, h1, cutM_on (h f (by simp)), plug]
def putM : MT IP → IP → MT IP
  | .nil, p => .node p .nil .nil
  | .node a l r, p => if ov a p then (if p.1 = a.1 then .node a l r else if p.1 < a.1 then .node a (putM l p) r else .node a l (putM r p)) else if a.1 = p.1 then .node a l r else .node p (unz (.node a l r) p.1).1 (unz (.node a l r) p.1).2
theorem putM_on {f : Fm IP} {p : IP} (h : (f.left = true → p.1 < f.a.1) ∧ (f.left = false → f.a.1 < p.1)) (ho : ov f.a p = true) (t : MT IP) : putM (f.on t) p = f.on (putM t p) := by
  obtain ⟨a, left, o⟩ := f
  simp only at ho h
  cases left with
  | true =>
    have := h.1 rfl
    simp [Fm.on, putM, ho, this, show ¬ p.1 = a.1 by omega]
  | false =>
    have := h.2 rfl
    simp [Fm.on, putM, ho, this, show ¬ p.1 < a.1 by omega, show ¬ p.1 = a.1 by omega]
theorem putM_plug {p : IP} : ∀ (C : List (Fm IP)) (t : MT IP), Dir Prod.fst C p.1 → (∀ f ∈ C, ov f.a p = true) → putM (plug C t) p = plug C (putM t p)
  | [], _, _, _ => rfl
  | f :: C, t, h, ho => by
    have h1 := putM_plug C (f.on t) (fun x hx => h x (by simp [hx])) (fun x hx => ho x (by simp [hx]))
    rw [plug, h1, putM_on (h f (by simp)) (ho f (by simp)), plug]
/-- A call that answers the tree anew. -/
def ZmPost (nt : TypeId) (T' : MT IP) (F : List Nat) (w : World) (e : Ending) (w' : World) : Prop :=
  ∃ p F', e = .returned (.pointer p) ∧ MR w' nt ePair T' p F' ∧ (∀ x ∈ F', x ∈ F ∨ w.heap.size ≤ x) ∧ Kf (fun i => i ∈ F) w w'
def ZcRel (nt : TypeId) (w : World) (r0 : Addr) (T : MT IP) (F : List Nat) (key : Int) (qv : Value) (wr : World) : Prop :=
  ∃ C q t p Fc Ft, qv = .pointer (some q) ∧ At_ wr nt ePair Prod.fst r0 T F key C q t p Fc Ft ∧ r0.block < wr.heap.size ∧ Kp w wr
set_option maxRecDepth 100000 in
set_option maxHeartbeats 4000000 in
theorem zcut_any (T : MT IP) (p0 : Option Addr) (F : List Nat) (key : Int) (w : World) (hm : MR w 113 ePair T p0 F) : Calls Tryd.prog 44 #[.pointer p0, .int .i64 key] w (ZmPost 113 (cutM T key) F w) := by
  have hFl := hm.lt
  have HRF : Hid ((⟨w.heap.size, 0, none⟩ : Addr).block ∉ F) := hide (fun h => by have := hFl _ h; simp at this)
  have HS : Hid (At_ (w.alloc (.cells #[.pointer p0] 73)) 113 ePair Prod.fst ⟨w.heap.size, 0, none⟩ T F key [] ⟨w.heap.size, 0, none⟩ T p0 [] F) := hide (At_.start key (by simp [go_sem]) (by simp [go_sem]) (hm.kp (Kp.refl w).alloc))
  have HFL := hide hFl
  clear hm hFl
  go_enter Tryd.func44, Tryd.ntmps44
  go_wp2
  go_loopw [5] (ZcRel 113 w ⟨w.heap.size, 0, none⟩ T F key) (szAt 113 ePair)
  case atStart => exact ⟨_, _, _, _, _, _, rfl, HS.out, by simp, (Kp.refl w).alloc⟩
  case round =>
    obtain ⟨C, q, t, p, Fc, Ft, rfl, ha, hrl, hkp⟩ := hrel
    have HA := hide ha
    have c0 := ha.cell
    have hm := ha.mr
    have HRL := hide hrl
    have HKP := hide hkp
    clear ha hkp
    cases p with
    | none =>
      obtain ⟨rfl, rfl⟩ := hm.of_none
      obtain ⟨p1, F1, k1, k2, k3⟩ := HA.out.zp.close HA.out.cell hm HA.out.dis
      have HK2 := hide k2
      have HK3 := hide k3
      have hT : Hid (cutM T key = plug C .nil) := hide (by rw [HA.out.eq, cutM_plug C _ HA.out.dir]; rfl)
      clear hm k2 k3
      go_wp2
      exact bodyPost_ret (v := .pointer p1) (by simp [results, Tryd.results44, go_sem]) rfl ⟨p1, F1, rfl, by rw [hT.out]; exact HK2.out, fun x hx => .inl (HA.out.sub x ((HK3.out x).1 hx)), Kf.of HKP.out⟩
    | some ad =>
      obtain ⟨a, l, r, b, pl, pr, Fl, Fr, rfl, rfl, rfl, hb, g1, g2, g3, hl, hr⟩ := hm.of_some
      have ck : wr.cell? ⟨b, 0, none⟩ = some (.int .i64 a.1) := hb.cell 0
      have HMS := hide (szAt_eq c0 hm)
      have HML := hide (szAt_eq (hb.link true) hl)
      have HMR := hide (szAt_eq (hb.link false) hr)
      have HD := hide (HA.out.down hb g1 g2 g3 hl hr)
      have cl : wr.cell? ⟨b, 2, none⟩ = some (.pointer pl) := hb.link true
      have cr : wr.cell? ⟨b, 3, none⟩ = some (.pointer pr) := hb.link false
      have HL := hide hl
      have HR := hide hr
      have G1 := hide g1
      have G2 := hide g2
      have G3 := hide g3
      clear hm hb g1 g2 g3 hl hr
      rcases Int.lt_trichotomy key a.1 with hk | hk | hk
      · have d1 : (a.1 != key) = true := by rw [bne_iff_ne]; omega
        have HN := hide (HD.out.1 hk)
        clear HMR
        go_wp2
        go_roundw
        case rel => exact ⟨_, _, _, _, _, _, rfl, HN.out, HRL.out, HKP.out⟩
        case measure => exact Nat.lt_of_lt_of_le (Nat.lt_of_le_of_lt (Nat.le_of_eq HML.out) (by simp only [MT.size]; omega)) (Nat.le_of_eq HMS.out.symm)
      · have d1 : (a.1 != key) = false := by simp [hk]
        have HT : Hid (cutM T key = plug C (zipM l r)) := hide (by rw [HA.out.eq, cutM_plug C _ HA.out.dir, cutM, if_neg (by omega), if_neg (by omega)])
        have HZ := hide (fun W (h1 : Kp wr W) => zipped_any _ l r pl pr Fl Fr W (Nat.le_refl _) (HL.out.kp h1) (HR.out.kp h1) G3.out)
        have hqn : ¬ (q.block ∈ Fl ∨ q.block ∈ Fr) := by
          rcases HA.out.zp.at_ with e | hx
          · rw [e]
            rintro (h | h)
            · exact HRF.out (HA.out.sub _ (.inl (by simp [h])))
            · exact HRF.out (HA.out.sub _ (.inl (by simp [h])))
          · rintro (h | h)
            · exact HA.out.dis _ (by simp [h]) hx
            · exact HA.out.dis _ (by simp [h]) hx
        have HQN := hide hqn
        have KW0 := Kp.refl wr
        have f0 := HA.out.fz
        have hql := World.block_lt_of_cell? _ _ c0
        clear hk hqn HML HMR HMS HD
        go_wp2_with fail
        go_region_law (go_simp; (go_at_call 37); (with_reducible refine (HZ.out _ ?_).mono ?_); (go_split_ands; (focus ((repeat (first | (with_reducible assumption) | (with_reducible exact Kp.refl _) | (with_reducible apply Kp.drew) | (with_reducible apply Kp.drewN) | ((with_reducible apply Kp.setR); (focus (first | (with_reducible assumption) | (simp; done) | (simp; omega)))) | (with_reducible apply Kp.alloc) | ((with_reducible apply Kp.call); (with_reducible assumption)) | ((with_reducible apply Kp.app); (with_reducible assumption)))); done))); rintro e w2 ⟨p2, F2, rfl, hm2, hF2, hk2⟩; have c2 := hk2.cell HQN.out c0; have f2 := (hk2.frozen hql HQN.out).trans f0)
        all_goals
          have hdc : ∀ i, i ∈ Fl ∨ i ∈ Fr → i ∉ Fc := fun i h => HA.out.dis i (by simp only [List.mem_cons, List.mem_append]; exact .inr h)
          have hdF : ∀ i, i ∈ Fl ∨ i ∈ Fr → i ∈ F := fun i h => HA.out.sub i (.inl (by simp only [List.mem_cons, List.mem_append]; exact .inr h))
          obtain ⟨p1, F1, q1, q2, q3, q4⟩ := (HA.out.kpZ (Kp.refl wr).drew HRL.out).putG HRF.out HRL.out hk2 (fun i hi h => hdc i h hi) (fun h => HRF.out (hdF _ h)) hm2 (fun x hx => hdc x (hF2 x hx)) (fun h => HRF.out (hdF _ (hF2 _ h)))
          have HQ2 := hide q2
          have HQ3 := hide q3
          have HQ4 := hide q4
          have HDF := hide hdF
          have HHF := hide hF2
          clear q2 q3 q4 hdc hdF hm2 hF2 hk2
          go_wp2
          refine bodyPost_ret (v := .pointer p1) (by simp [results, Tryd.results44, go_sem]) rfl ⟨p1, F1, rfl, by rw [HT.out]; exact HQ2.out, fun x hx => .inl ?_, ?_⟩
          · rcases HQ3.out x hx with h | h
            · exact HDF.out x (HHF.out x h)
            · exact HA.out.sub x (.inr h)
          · exact (Kf.of (F := fun i => i ∈ F) (Kp.drew HKP.out)).trans HQ4.out (fun i hi h => by
              rcases h with h | h | h
              · exact HDF.out i h
              · rw [h] at hi; simp at hi
              · exact HA.out.sub i (.inr h))
      · have d1 : (a.1 != key) = true := by rw [bne_iff_ne]; omega
        have d2 : decide (key < a.1) = false := by simp; omega
        have HN := hide (HD.out.2 hk)
        clear HML
        go_wp2
        go_roundw
        case rel => exact ⟨_, _, _, _, _, _, rfl, HN.out, HRL.out, HKP.out⟩
        case measure => exact Nat.lt_of_lt_of_le (Nat.lt_of_le_of_lt (Nat.le_of_eq HMR.out) (by simp only [MT.size]; omega)) (Nat.le_of_eq HMS.out.symm)
end Go.Proofs.YtfgbbmjnjppfnaaDoor
namespace Go.Proofs.YtfgbbmjnjppfnaaDoor
open Go.ChangeShapes Go.WideShapes Go.ChangeAt Go.RowKit
set_option linter.unusedVariables false
set_option linter.unusedSimpArgs false

def ZpRel (nt : TypeId) (w : World) (r0 : Addr) (bx : Nat) (T : MT IP) (F : List Nat) (P : IP) (qv : Value) (wr : World) : Prop :=
  ∃ C q t p Fc Ft, qv = .pointer (some q) ∧ At_ wr nt ePair Prod.fst r0 T F P.1 C q t p Fc Ft ∧ (∀ f ∈ C, ov f.a P = true) ∧ BC wr bx nt (nodeC ePair P none none) ∧ r0.block < wr.heap.size ∧ Kp w wr
set_option maxRecDepth 100000 in
set_option maxHeartbeats 8000000 in
theorem zput_any (T : MT IP) (p0 : Option Addr) (F : List Nat) (key : Int) (w : World) (hm : MR w 113 ePair T p0 F) (hdb : DTb w) : Calls Tryd.prog 43 #[.pointer p0, .int .i64 key] w (ZmPost 113 (putM T (key, hgtF key)) F w) := by
  have hFl := hm.lt
  obtain ⟨h, hh⟩ : ∃ h, h = hgtF key := ⟨_, rfl⟩
  have HHG := hide (fun W hd => height_any key W hd)
  rw [← hh] at HHG ⊢
  obtain ⟨r0, hr0⟩ : ∃ r0 : Addr, r0 = ⟨w.heap.size, 0, none⟩ := ⟨_, rfl⟩
  have HR0 := hide hr0
  have HRF : Hid (r0.block ∉ F) := hide (fun h => by have := hFl _ h; rw [hr0] at this; simp at this)
  have HBF : Hid (w.heap.size + 1 ∉ F) := hide (fun h => by have := hFl _ h; omega)
  have kk : Kp w ((w.alloc (.cells #[.pointer p0] 73)).alloc (.cells #[.int .i64 key, .int .i64 h, .pointer none, .pointer none] 113)) := (Kp.refl w).alloc.alloc
  have HS : Hid (At_ ((w.alloc (.cells #[.pointer p0] 73)).alloc (.cells #[.int .i64 key, .int .i64 h, .pointer none, .pointer none] 113)) 113 ePair Prod.fst r0 T F key [] r0 T p0 [] F) := hide (At_.start key (by rw [hr0]; exact ((Kp.refl _).alloc).cell (by simp [go_sem])) (by rw [hr0]; simp [go_sem]) (hm.kp kk))
  have HBX : Hid (BC ((w.alloc (.cells #[.pointer p0] 73)).alloc (.cells #[.int .i64 key, .int .i64 h, .pointer none, .pointer none] 113)) (w.heap.size + 1) 113 (nodeC ePair (key, h) none none)) := hide (by
    have h9 := BC.new (w.alloc (.cells #[.pointer p0] 73)) 113 (nodeC ePair (key, h) none none)
    rw [show (w.alloc (.cells #[.pointer p0] 73)).heap.size = w.heap.size + 1 by simp] at h9
    exact h9)
  have HDB : Hid (DTb (w.alloc (.cells #[.pointer p0] 73))) := hide (hdb.kp (Kp.refl w).alloc)
  have HKK := hide kk
  have hrb : Hid (r0.block = w.heap.size) := hide (by rw [hr0])
  clear hm hFl hdb kk hh
  go_enter Tryd.func43, Tryd.ntmps43
  go_wp2_with fail
  rw [← HR0.out]
  with_reducible refine (HHG.out _ HDB.out).mono ?_
  rintro e w1 ⟨rfl, rfl⟩
  go_wp2
  go_loopw [6] (ZpRel 113 w r0 (w.heap.size + 1) T F (key, h)) (szAt 113 ePair)
  case atStart => exact ⟨[], r0, T, p0, [], F, by rw [HR0.out], HS.out, (fun f hf => absurd hf (by simp)), HBX.out, by rw [hrb.out]; simp <;> omega, HKK.out⟩
  case round =>
    obtain ⟨C, q, t, p, Fc, Ft, rfl, ha, hov, hbx, hrl, hkp⟩ := hrel
    have HA := hide ha
    have HOVC := hide hov
    have c0 := ha.cell
    have hm := ha.mr
    have HPL : Hid (∀ t', putM t (key, h) = t' → putM T (key, h) = plug C t') := hide (fun t' e => by rw [ha.eq, putM_plug C _ ha.dir hov, e])
    cases p with
    | none =>
      obtain ⟨rfl, rfl⟩ := hm.of_none
      have HMW : Hid (MR wr 113 ePair .nil none []) := hide hm
      have HAW := HA
      have HBW := hide hbx
      have HRW := hide hrl
      have HKW := hide hkp
      have HPM : Hid (putM T (key, h) = plug C (.node (key, h) (unz .nil key).1 (unz .nil key).2)) := hide (HPL.out _ rfl)
      clear hm ha hov hbx hrl hkp
      go_wp2_with fail
      with_reducible refine (unzipped_any (.nil : MT IP) (none : Option Addr) [] key _ HMW.out).mono ?_
      rintro e w3 ⟨pa, pb, Fa, Fb, rfl, ha3, hb3, s1, s2, s3, hk3⟩
      have hbt : w.heap.size + 1 ∉ ([] : List Nat) := fun h => HBF.out (HAW.out.sub _ (.inl h))
      have hbc : w.heap.size + 1 ∉ Fc := fun h => HBF.out (HAW.out.sub _ (.inr h))
      have hrt : r0.block ∉ ([] : List Nat) := fun h => HRF.out (HAW.out.sub _ (.inl h))
      have hrc : r0.block ∉ Fc := fun h => HRF.out (HAW.out.sub _ (.inr h))
      have hrn : r0.block ≠ w.heap.size + 1 := by rw [hrb.out]; omega
      have hb3' : BC w3 (w.heap.size + 1) 113 (nodeC ePair (key, h) none none) := HBW.out.kf hk3 hbt
      have c2 : w3.cell? ⟨w.heap.size + 1, 2, none⟩ = some (.pointer none) := hb3'.link true
      have c3 : w3.cell? ⟨w.heap.size + 1, 3, none⟩ = some (.pointer none) := hb3'.link false
      have f2 := hb3'.frozen 2
      have f3 := hb3'.frozen 3
      have hqt : q.block ∉ ([] : List Nat) := by
        rcases HAW.out.zp.at_ with e | hx
        · rw [e]; exact hrt
        · exact fun h => HAW.out.dis _ h hx
      have hqb : q.block ≠ w.heap.size + 1 := by
        rcases HAW.out.zp.at_ with e | hx
        · rw [e]; exact hrn
        · intro h; rw [h] at hx; exact hbc hx
      have c0q := hk3.cell hqt HAW.out.cell
      have f0q := (hk3.frozen (World.block_lt_of_cell? _ _ HAW.out.cell) hqt).trans HAW.out.fz
      have q1 : ∀ (j : Nat) (u : Value) (X : World), (X.setCell ⟨w.heap.size + 1, j, none⟩ u).cell? q = X.cell? q := fun j u X => World.cell?_setCell_other _ _ _ _ (fun e => hqb (by rw [← e]))
      have hXB : BC ((w3.setCell ⟨w.heap.size + 1, 2, none⟩ (.pointer pa)).setCell ⟨w.heap.size + 1, 3, none⟩ (.pointer pb)) (w.heap.size + 1) 113 (nodeC ePair (key, h) pa pb) := (hb3'.set (j := 2)).set (j := 3)
      have hba : w.heap.size + 1 ∉ Fa := fun h => hbt (s1 _ h)
      have hbb : w.heap.size + 1 ∉ Fb := fun h => hbt (s2 _ h)
      have hXM := MR.mk hXB hba hbb s3 ((ha3.set (q := ⟨w.heap.size + 1, 2, none⟩) (u := .pointer pa) hba).set (q := ⟨w.heap.size + 1, 3, none⟩) (u := .pointer pb) hba) ((hb3.set (q := ⟨w.heap.size + 1, 2, none⟩) (u := .pointer pa) hbb).set (q := ⟨w.heap.size + 1, 3, none⟩) (u := .pointer pb) hbb)
      have hXK : Kf (fun i => i ∈ ([] : List Nat) ∨ i = w.heap.size + 1) wr ((w3.setCell ⟨w.heap.size + 1, 2, none⟩ (.pointer pa)).setCell ⟨w.heap.size + 1, 3, none⟩ (.pointer pb)) := ((hk3.mono (fun i _ h => .inl h)).set (.inl (.inr rfl))).set (.inl (.inr rfl))
      have hsubF : ∀ x ∈ (w.heap.size + 1) :: (Fa ++ Fb), x ∈ ([] : List Nat) ∨ x = w.heap.size + 1 := fun x hx => by
        simp only [List.mem_cons, List.mem_append] at hx
        rcases hx with h | h | h
        · exact .inr h
        · exact .inl (s1 x h)
        · exact .inl (s2 x h)
      obtain ⟨p1, F1, z1, z2, z3, z4⟩ := HAW.out.putG HRF.out HRW.out hXK (fun i hi h => h.elim (fun h => HAW.out.dis i h hi) (fun h => hbc (by rw [← h]; exact hi))) (fun h => h.elim hrt hrn) hXM (fun x hx hx' => (hsubF x hx).elim (fun h => HAW.out.dis x h hx') (fun h => hbc (by rw [← h]; exact hx'))) (fun hx => (hsubF _ hx).elim hrt hrn)
      have HZ2 := hide z2
      have HZ3 := hide z3
      have HZ4 := hide z4
      have HSF := hide hsubF
      rw [HR0.out] at z1
      clear hbt hbc hrt hrc hrn hb3' hqt hqb hXB hba hbb hXM hXK hsubF z2 z3 z4 ha3 hb3 s1 s2 s3 hk3
      go_wp2
      refine bodyPost_ret (v := .pointer p1) (by simp [results, Tryd.results43, go_sem]) rfl ⟨p1, F1, rfl, by rw [HPM.out]; exact HZ2.out, fun x hx => ?_, ?_⟩
      · rcases HZ3.out x hx with h | h
        · rcases HSF.out x h with h | h
          · exact .inl (HAW.out.sub x (.inl h))
          · exact .inr (by omega)
        · exact .inl (HAW.out.sub x (.inr h))
      · exact (Kf.of (F := fun i => i ∈ F) HKW.out).trans HZ4.out (fun i hi h => by
          rcases h with (h | h) | h | h
          · exact HAW.out.sub i (.inl h)
          · omega
          · rw [hrb.out] at h; omega
          · exact HAW.out.sub i (.inr h))
    | some ad =>
      obtain ⟨a, l, r, b, pl, pr, Fl, Fr, rfl, rfl, rfl, hb, g1, g2, g3, hl, hr⟩ := hm.of_some
      have x0 : wr.cell? ⟨b, 0, none⟩ = some (.int .i64 a.1) := hb.cell 0
      have x1 : wr.cell? ⟨b, 1, none⟩ = some (.int .i64 a.2) := hb.cell 1
      have HOV := hide (over_any b (w.heap.size + 1) a (key, h) wr x0 x1 (hbx.cell 0) (hbx.cell 1))
      have HMS := hide (szAt_eq c0 hm)
      have HB := hide hb
      have HL := hide hl
      have HR := hide hr
      have HD := hide (fun W (hk : Kp wr W) => (ha.kpZ hk hrl).down (hb.kp hk) g1 g2 g3 (hl.kp hk) (hr.kp hk))
      have HBX := hide hbx
      have HRL := hide hrl
      have HKP := hide hkp
      have HM := hide hm
      have hrw : ∀ W, Kp wr W → r0.block < W.heap.size := fun W hk => Nat.lt_of_lt_of_le hrl hk.size
      have HRWW := hide hrw
      clear hb hl hr g1 g2 g3 ha hbx hrl hkp hm hrw
      cases hov2 : ov a (key, h) with
      | true =>
        rw [hov2] at HOV
        have HOC2 : Hid (∀ f ∈ (⟨a, true, r⟩ :: C : List (Fm IP)), ov f.a (key, h) = true) := hide (fun f hf => by rcases List.mem_cons.1 hf with rfl | hf; exact hov2; exact hov f hf)
        have HOC3 : Hid (∀ f ∈ (⟨a, false, l⟩ :: C : List (Fm IP)), ov f.a (key, h) = true) := hide (fun f hf => by rcases List.mem_cons.1 hf with rfl | hf; exact hov2; exact hov f hf)
        clear hov
        go_wp2_with fail
        with_reducible refine HOV.out.mono ?_
        rintro e w2 ⟨rfl, hb2⟩
        have kk2 : Kp wr w2 := Kp.of hb2
        have x0' := kk2.cell x0
        have c0' := kk2.cell c0
        clear hb2 x0 x1 c0
        have HKW := hide (HKP.out.trans kk2)
        have HAW := hide (HA.out.kpZ kk2 HRL.out)
        rcases Int.lt_trichotomy key a.1 with hk | hk | hk
        · have d1 : (key == a.1) = false := by simp; omega
          have HN := hide ((HD.out _ kk2).1 hk)
          have HML := hide (szAt_eq ((HB.out.kp kk2).link true) (HL.out.kp kk2))
          go_wp2
          go_roundw
          case rel => exact ⟨_, _, _, _, _, _, rfl, HN.out, HOC2.out, HBX.out.kp kk2, HRWW.out _ kk2, HKW.out⟩
          case measure => exact Nat.lt_of_lt_of_le (Nat.lt_of_le_of_lt (Nat.le_of_eq HML.out) (by simp only [MT.size]; omega)) (Nat.le_of_eq HMS.out.symm)
        · have d1 : (key == a.1) = true := by simp [hk]
          have HPM : Hid (putM T (key, h) = plug C (.node a l r)) := hide (HPL.out _ (by rw [putM, if_pos hov2, if_pos hk]))
          clear hk
          obtain ⟨p1, F1, z1, z2, z3⟩ := HAW.out.zp.close HAW.out.cell HAW.out.mr HAW.out.dis
          have HZ2 := hide z2
          have HZ3 := hide z3
          rw [HR0.out] at z1
          clear z2 z3
          go_wp2
          exact bodyPost_ret (v := .pointer p1) (by simp [results, Tryd.results43, go_sem]) rfl ⟨p1, F1, rfl, by rw [HPM.out]; exact HZ2.out, fun x hx => .inl (HAW.out.sub x ((HZ3.out x).1 hx)), Kf.of HKW.out⟩
        · have d1 : (key == a.1) = false := by simp; omega
          have d2 : decide (key < a.1) = false := by simp; omega
          have HN := hide ((HD.out _ kk2).2 hk)
          have HMR := hide (szAt_eq ((HB.out.kp kk2).link false) (HR.out.kp kk2))
          go_wp2
          go_roundw
          case rel => exact ⟨_, _, _, _, _, _, rfl, HN.out, HOC3.out, HBX.out.kp kk2, HRWW.out _ kk2, HKW.out⟩
          case measure => exact Nat.lt_of_lt_of_le (Nat.lt_of_le_of_lt (Nat.le_of_eq HMR.out) (by simp only [MT.size]; omega)) (Nat.le_of_eq HMS.out.symm)
      | false =>
        rw [hov2] at HOV
        clear hov
        go_wp2_with fail
        with_reducible refine HOV.out.mono ?_
        rintro e w2 ⟨rfl, hb2⟩
        have kk2 : Kp wr w2 := Kp.of hb2
        have x0' := kk2.cell x0
        have c0' := kk2.cell c0
        clear hb2 x0 x1 c0
        have HKW := hide (HKP.out.trans kk2)
        have HAW := hide (HA.out.kpZ kk2 HRL.out)
        by_cases hk : a.1 = key
        · have d1 : (a.1 == key) = true := by simp [hk]
          have HPM : Hid (putM T (key, h) = plug C (.node a l r)) := hide (HPL.out _ (by rw [putM, if_neg (by simp [hov2]), if_pos hk]))
          clear hk
          obtain ⟨p1, F1, z1, z2, z3⟩ := HAW.out.zp.close HAW.out.cell HAW.out.mr HAW.out.dis
          have HZ2 := hide z2
          have HZ3 := hide z3
          rw [HR0.out] at z1
          clear z2 z3
          go_wp2
          exact bodyPost_ret (v := .pointer p1) (by simp [results, Tryd.results43, go_sem]) rfl ⟨p1, F1, rfl, by rw [HPM.out]; exact HZ2.out, fun x hx => .inl (HAW.out.sub x ((HZ3.out x).1 hx)), Kf.of HKW.out⟩
        · have d1 : (a.1 == key) = false := by simpa using hk
          have HPM : Hid (putM T (key, h) = plug C (.node (key, h) (unz (.node a l r) key).1 (unz (.node a l r) key).2)) := hide (HPL.out _ (by rw [putM, if_neg (by simp [hov2]), if_neg hk]))
          have HMW := hide (HM.out.kp kk2)
          have HBW := hide (HBX.out.kp kk2)
          have HRW := hide (HRWW.out _ kk2)
          clear hk
          go_wp2_with fail
          with_reducible refine (unzipped_any (.node a l r : MT IP) (some ⟨b, 0, none⟩ : Option Addr) (b :: (Fl ++ Fr)) key _ HMW.out).mono ?_
          rintro e w3 ⟨pa, pb, Fa, Fb, rfl, ha3, hb3, s1, s2, s3, hk3⟩
          have hbt : w.heap.size + 1 ∉ ((b :: (Fl ++ Fr)) : List Nat) := fun h => HBF.out (HAW.out.sub _ (.inl h))
          have hbc : w.heap.size + 1 ∉ Fc := fun h => HBF.out (HAW.out.sub _ (.inr h))
          have hrt : r0.block ∉ ((b :: (Fl ++ Fr)) : List Nat) := fun h => HRF.out (HAW.out.sub _ (.inl h))
          have hrc : r0.block ∉ Fc := fun h => HRF.out (HAW.out.sub _ (.inr h))
          have hrn : r0.block ≠ w.heap.size + 1 := by rw [hrb.out]; omega
          have hb3' : BC w3 (w.heap.size + 1) 113 (nodeC ePair (key, h) none none) := HBW.out.kf hk3 hbt
          have c2 : w3.cell? ⟨w.heap.size + 1, 2, none⟩ = some (.pointer none) := hb3'.link true
          have c3 : w3.cell? ⟨w.heap.size + 1, 3, none⟩ = some (.pointer none) := hb3'.link false
          have f2 := hb3'.frozen 2
          have f3 := hb3'.frozen 3
          have hqt : q.block ∉ ((b :: (Fl ++ Fr)) : List Nat) := by
            rcases HAW.out.zp.at_ with e | hx
            · rw [e]; exact hrt
            · exact fun h => HAW.out.dis _ h hx
          have hqb : q.block ≠ w.heap.size + 1 := by
            rcases HAW.out.zp.at_ with e | hx
            · rw [e]; exact hrn
            · intro h; rw [h] at hx; exact hbc hx
          have c0q := hk3.cell hqt HAW.out.cell
          have f0q := (hk3.frozen (World.block_lt_of_cell? _ _ HAW.out.cell) hqt).trans HAW.out.fz
          have q1 : ∀ (j : Nat) (u : Value) (X : World), (X.setCell ⟨w.heap.size + 1, j, none⟩ u).cell? q = X.cell? q := fun j u X => World.cell?_setCell_other _ _ _ _ (fun e => hqb (by rw [← e]))
          have hXB : BC ((w3.setCell ⟨w.heap.size + 1, 2, none⟩ (.pointer pa)).setCell ⟨w.heap.size + 1, 3, none⟩ (.pointer pb)) (w.heap.size + 1) 113 (nodeC ePair (key, h) pa pb) := (hb3'.set (j := 2)).set (j := 3)
          have hba : w.heap.size + 1 ∉ Fa := fun h => hbt (s1 _ h)
          have hbb : w.heap.size + 1 ∉ Fb := fun h => hbt (s2 _ h)
          have hXM := MR.mk hXB hba hbb s3 ((ha3.set (q := ⟨w.heap.size + 1, 2, none⟩) (u := .pointer pa) hba).set (q := ⟨w.heap.size + 1, 3, none⟩) (u := .pointer pb) hba) ((hb3.set (q := ⟨w.heap.size + 1, 2, none⟩) (u := .pointer pa) hbb).set (q := ⟨w.heap.size + 1, 3, none⟩) (u := .pointer pb) hbb)
          have hXK : Kf (fun i => i ∈ ((b :: (Fl ++ Fr)) : List Nat) ∨ i = w.heap.size + 1) w2 ((w3.setCell ⟨w.heap.size + 1, 2, none⟩ (.pointer pa)).setCell ⟨w.heap.size + 1, 3, none⟩ (.pointer pb)) := ((hk3.mono (fun i _ h => .inl h)).set (.inl (.inr rfl))).set (.inl (.inr rfl))
          have hsubF : ∀ x ∈ (w.heap.size + 1) :: (Fa ++ Fb), x ∈ ((b :: (Fl ++ Fr)) : List Nat) ∨ x = w.heap.size + 1 := fun x hx => by
            simp only [List.mem_cons, List.mem_append] at hx
            rcases hx with h | h | h
            · exact .inr h
            · exact .inl (s1 x h)
            · exact .inl (s2 x h)
          obtain ⟨p1, F1, z1, z2, z3, z4⟩ := HAW.out.putG HRF.out HRW.out hXK (fun i hi h => h.elim (fun h => HAW.out.dis i h hi) (fun h => hbc (by rw [← h]; exact hi))) (fun h => h.elim hrt hrn) hXM (fun x hx hx' => (hsubF x hx).elim (fun h => HAW.out.dis x h hx') (fun h => hbc (by rw [← h]; exact hx'))) (fun hx => (hsubF _ hx).elim hrt hrn)
          have HZ2 := hide z2
          have HZ3 := hide z3
          have HZ4 := hide z4
          have HSF := hide hsubF
          rw [HR0.out] at z1
          clear hbt hbc hrt hrc hrn hb3' hqt hqb hXB hba hbb hXM hXK hsubF z2 z3 z4 ha3 hb3 s1 s2 s3 hk3
          go_wp2
          refine bodyPost_ret (v := .pointer p1) (by simp [results, Tryd.results43, go_sem]) rfl ⟨p1, F1, rfl, by rw [HPM.out]; exact HZ2.out, fun x hx => ?_, ?_⟩
          · rcases HZ3.out x hx with h | h
            · rcases HSF.out x h with h | h
              · exact .inl (HAW.out.sub x (.inl h))
              · exact .inr (by omega)
            · exact .inl (HAW.out.sub x (.inr h))
          · exact (Kf.of (F := fun i => i ∈ F) HKW.out).trans HZ4.out (fun i hi h => by
              rcases h with (h | h) | h | h
              · exact HAW.out.sub i (.inl h)
              · omega
              · rw [hrb.out] at h; omega
              · exact HAW.out.sub i (.inr h))
end Go.Proofs.YtfgbbmjnjppfnaaDoor
namespace Go.Proofs.YtfgbbmjnjppfnaaDoor
open Go.ChangeShapes Go.WideShapes Go.ChangeAt Go.RowKit
set_option linter.unusedVariables false
set_option linter.unusedSimpArgs false

/-- The block g is just these cells. -/
def BK (w : World) (g : Nat) (t : TypeId) (cur : List Value) : Prop := w.heap[g]? = some (.cells cur.toArray t (0, 0))
section
variable {P : Program} {w w' : World} {g : Nat} {t : TypeId} {cur cs : List Value}
theorem BK.lt (h : BK w g t cur) : g < w.heap.size := (Array.getElem?_eq_some_iff.1 h).1
theorem BK.kp (h : BK w g t cur) (hk : Kp w w') : BK w' g t cur := (hk.bel.block g h.lt).trans h
theorem BK.kg {b : Nat} (h : BK w g t cur) (hn : g ≠ b) (hk : Kg b w w') : BK w' g t cur := (hk.block h.lt hn).trans h
theorem BK.cell (h : BK w g t cur) (j : Nat) : w.cell? ⟨g, j, none⟩ = cur[j]? := by
  rw [cell_of_row w g j _ t (0, 0) h]; simp
theorem Kg.setRow (w : World) (g : Nat) (cs : Array Value) : Kg g w (w.setRow g cs) := ⟨rfl, rfl, rfl, by simp, fun k hk hn => setRow_other w g k cs (fun e => hn (by rw [e]))⟩
theorem BK.setRow (h : BK w g t cur) (cs : List Value) : BK (w.setRow g cs.toArray) g t cs := setRow_heap w g _ _ t _ h
theorem BK.of_ow {α : Type} {B : Nat} {E : Enc α} {e : TypeId} {n c : Nat} {l : List α} (h : OW w B e E (.slice (some ⟨g, 0, none⟩) n c) l) : ∃ cur : List Value, BK w g e cur ∧ B ≤ g ∧ n ≤ c ∧ c ≤ maxLen ∧ cur.length = c * E.size ∧ cur.take (n * E.size) = l.flatMap E.cells ∧ n = l.length := by
  obtain ⟨h1, h2⟩ := h
  have hn : n = l.length := by
    rcases h2 with ⟨h2, _⟩ | ⟨g', cap, cur, hv, _⟩
    · cases h2
    · injection hv
  rcases h2 with ⟨h2, _⟩ | ⟨g', cap, cur, hv, hb, hg, h3, h4, h5, h6⟩
  · cases h2
  · injection hv with e1 e2 e3
    injection e1 with e1
    injection e1 with e1 _
    subst e1 e3
    refine ⟨cur.toList, ?_, hb, by omega, h4, by simpa using h5, by rw [hn]; simpa using h6, hn⟩
    unfold BK
    simpa using hg
theorem BK.ow {α : Type} {B : Nat} {E : Enc α} {e : TypeId} {c : Nat} {l : List α} (h : BK w g e cur) (hB : B ≤ g) (hn : l.length ≤ c) (hc : c ≤ maxLen) (hl : cur.length = c * E.size) (ht : cur.take (l.length * E.size) = l.flatMap E.cells) :
    OW w B e E (.slice (some ⟨g, 0, none⟩) l.length c) l :=
  ⟨flat_len E l, .inr ⟨g, c, cur.toArray, rfl, hB, h, hn, hc, by simpa using hl, by simpa using ht⟩⟩

theorem splice_len (L : List Value) (off : Nat) (cs : List Value) (h : off + cs.length ≤ L.length) : (splice L off cs).length = L.length := length_splice L off cs h
theorem splice_at {α : Type} (L : List α) (off : Nat) (cs : List α) (h : off + cs.length ≤ L.length) (j : Nat) : (splice L off cs)[j]? = if j < off then L[j]? else if j < off + cs.length then cs[j - off]? else L[j]? := by
  unfold splice
  by_cases h1 : j < off
  · rw [if_pos h1, List.getElem?_append_left (by simp; omega), List.getElem?_take, if_pos h1]
  · rw [if_neg h1, List.getElem?_append_right (by simp; omega)]
    have e : (L.take off).length = off := by simp; omega
    rw [e]
    by_cases h2 : j < off + cs.length
    · rw [if_pos h2, List.getElem?_append_left (by omega)]
    · rw [if_neg h2, List.getElem?_append_right (by omega), List.getElem?_drop]
      congr 1; omega

theorem run_storeRow (hg : BK w g t cur) (o : Nat) (hfit : o + cs.length ≤ cur.length) (h1 : ∀ v ∈ cs, v.oneCell' = true) : (storeCells ⟨g, o, none⟩ cs).run P w = .ok () (w.setRow g (splice cur o cs).toArray) := by
  have h := run_storeCells_at P g o t cs 0 cur.toArray w hg (by simpa using hfit) h1
  rw [h]
  simp [splice]
theorem add_lit (b o j : Nat) : (⟨b, o, none⟩ : Addr).add j = ⟨b, o + j, none⟩ := by unfold Addr.add; split <;> simp_all
theorem run_copyK {dT sT ty elem : TypeId} {i0 : TypeInfo} (hi : P.info? elem = some i0) (hu : P.underlying dT = some (.slice elem)) (o dLen dCap : Nat) (a : Addr) (sLen sCap : Nat) (hg : BK w g t cur)
    (hn : cs.length = Nat.min sLen dLen * i0.size) (hsrc : ∀ j v, cs[j]? = some v → w.cell? (a.add j) = some v) (hfit : o + cs.length ≤ cur.length) (h1 : ∀ v ∈ cs, v.oneCell' = true) :
    (Builtin.copy_ #[dT, sT] ty #[.slice (some ⟨g, o, none⟩) dLen dCap, .slice (some a) sLen sCap]).run P w = .ok (goInt (Nat.min sLen dLen)) (w.setRow g (splice cur o cs).toArray) := by
  have hf := run_firstCells_some (P := P) w i0.size (Nat.min sLen dLen) a sLen sCap cs hn hsrc
  have hst := run_storeRow (P := P) hg o hfit h1
  simp [Builtin.copy_, run_underlying hu, Builtin.lenOf, sizeOf, typeInfo, hi, hf, hst]
theorem run_appendK {tt tx ty elem : TypeId} {i0 : TypeInfo} (hi : P.info? elem = some i0) (hu : P.underlying tt = some (.slice elem)) (hx : P.underlying tx = some (.slice elem)) (n c : Nat) (a : Addr) (m sCap : Nat) (hg : BK w g t cur)
    (hn : cs.length = m * i0.size) (hroom : n + m ≤ c) (hsrc : ∀ j v, cs[j]? = some v → w.cell? (a.add j) = some v) (hfit : n * i0.size + cs.length ≤ cur.length) (h1 : ∀ v ∈ cs, v.oneCell' = true) :
    (Builtin.append_ #[tt, tx] ty #[.slice (some ⟨g, 0, none⟩) n c, .slice (some a) m sCap]).run P w = .ok (.slice (some ⟨g, 0, none⟩) (n + m) c) (w.setRow g (splice cur (n * i0.size) cs).toArray) := by
  have hs : Src P i0.size tx (.slice (some a) m sCap) m cs w := Src.ofSlice w hx a m sCap cs hn hsrc h1
  have h := run_append_room_src (P := P) w tt tx ty elem i0 hu hi g 0 n c (.slice (some a) m sCap) m cs hs hroom (fun j hj => by
    rw [Nat.zero_add, hg.cell, List.getElem?_eq_getElem (by omega)]; rfl) (fun j hj => by
    unfold BK at hg
    simp [World.frozen?, hg])
  rw [h]
  have h2 := run_storeRow (P := P) hg (n * i0.size) hfit h1
  have h3 := run_storeCells_cells (P := P) g (n * i0.size) cs 0 w (fun j hj => by rw [Nat.add_zero, hg.cell, List.getElem?_eq_getElem (by omega)]; rfl) (fun j hj => by
    unfold BK at hg
    simp [World.frozen?, hg]) h1
  rw [h2] at h3
  injection h3 with _ h3
  rw [h3]
  simp
theorem run_clearK {tt ty elem : TypeId} {i0 : TypeInfo} {z : Value} (hi : P.info? elem = some i0) (hz : i0.zero = some z) (hu : P.underlying tt = some (.slice elem)) (o n c : Nat) (hn : 0 < n) (hg : BK w g t cur)
    (hzs : z.cells.size = i0.size) (hfit : o + n * i0.size ≤ cur.length) (h1 : ∀ v ∈ (Builtin.zeroCells z.cells n).toList, v.oneCell' = true) :
    (Builtin.clear_ #[tt] ty #[.slice (some ⟨g, o, none⟩) n c]).run P w = .ok (.tuple #[]) (w.setRow g (splice cur o (Builtin.zeroCells z.cells n).toList).toArray) := by
  have hl : (Builtin.zeroCells z.cells n).toList.length = n * i0.size := by rw [Array.length_toList, size_zeroCells, hzs]
  have hst := run_storeRow (P := P) hg o (cs := (Builtin.zeroCells z.cells n).toList) (by rw [hl]; exact hfit) h1
  cases n with
  | zero => omega
  | succ n => simp [Builtin.clear_, run_underlying hu, zeroValue, typeInfo, hi, hz, hst]
end
section
variable {P : Program} {w : World} {ops : Array Oper} {rest : List Oper} {o : Oper} {a : Act} {Q : Exit → Act → World → Prop} {K : Act → World → Prop} {F : Prop}
/-- A copy whose run is known, at a plain region and at a step of one that draws: the world behind it is a letter. -/
theorem list_copy (hgd : o.guard = none) (d x : Operand) {dT sT : TypeId} (ho : o.op = .call { callee := .builtin .copy, args := #[d, x], argTypes := #[dT, sT] }) (v u : Value) (hd : a.eval d = v) (hx : a.eval x = u) {n : Nat} {g : Nat} {t : TypeId} {cur : List Value}
    (hg : BK w g t cur) {cs' : List Value} (hr : ∀ ty, (Builtin.copy_ #[dT, sT] ty #[v, u]).run P w = .ok (goInt n) (w.setRow g cs'.toArray))
    (h : ∀ w', Hid (BK w' g t cs') → Kg g w w' → wpList P ops Q rest (a.put o.dst (goInt n)) w') : wpList P ops Q (o :: rest) a w := by
  refine wpList_plain hgd fun K hK => ?_
  unfold Oper.wp execOp
  simp only [ho, resolve, invoke, builtin, Sem.run_bind, Sem.run_pure, Result.andThen_ok, List.map_toArray, List.map_cons, List.map_nil, hd, hx, hr]
  exact hK _ _ (h _ (hg.setRow cs') (Kg.setRow _ _ _))
theorem step_copy (hgd : o.guard = none) (d x : Operand) {dT sT : TypeId} (ho : o.op = .call { callee := .builtin .copy, args := #[d, x], argTypes := #[dT, sT] }) (v u : Value) (hd : a.eval d = v) (hx : a.eval x = u) {n : Nat} {g : Nat} {t : TypeId} {cur : List Value}
    (hg : BK w g t cur) {cs' : List Value} (hr : ∀ ty, (Builtin.copy_ #[dT, sT] ty #[v, u]).run P w = .ok (goInt n) (w.setRow g cs'.toArray))
    (h : ∀ w', Hid (BK w' g t cs') → Kg g w w' → K (a.put o.dst (goInt n)) w') : if Region.wanted o (yielded ops a.tmps) = true then Oper.wp P o a w K Q else F := by
  have hw : Region.wanted o (yielded ops a.tmps) = true := by simp [Region.wanted, hgd]
  rw [if_pos hw]
  unfold Oper.wp execOp
  simp only [ho, resolve, invoke, builtin, Sem.run_bind, Sem.run_pure, Result.andThen_ok, List.map_toArray, List.map_cons, List.map_nil, hd, hx, hr]
  exact h _ (hg.setRow cs') (Kg.setRow _ _ _)
/-- An append whose run is known to stay in its block. -/
theorem step_appK (hgd : o.guard = none) (d x : Operand) {dT sT : TypeId} (ho : o.op = .call { callee := .builtin .append, args := #[d, x], argTypes := #[dT, sT] }) (v u r : Value) (hd : a.eval d = v) (hx : a.eval x = u) {g : Nat} {t : TypeId} {cur : List Value}
    (hg : BK w g t cur) {cs' : List Value} (hr : ∀ ty, (Builtin.append_ #[dT, sT] ty #[v, u]).run P w = .ok r (w.setRow g cs'.toArray))
    (h : ∀ w', Hid (BK w' g t cs') → Kg g w w' → K (a.put o.dst r) w') : if Region.wanted o (yielded ops a.tmps) = true then Oper.wp P o a w K Q else F := by
  have hw : Region.wanted o (yielded ops a.tmps) = true := by simp [Region.wanted, hgd]
  rw [if_pos hw]
  unfold Oper.wp execOp
  simp only [ho, resolve, invoke, builtin, Sem.run_bind, Sem.run_pure, Result.andThen_ok, List.map_toArray, List.map_cons, List.map_nil, hd, hx, hr]
  exact h _ (hg.setRow cs') (Kg.setRow _ _ _)
theorem list_clear (hgd : o.guard = none) (d : Operand) {dT : TypeId} (ho : o.op = .call { callee := .builtin .clear, args := #[d], argTypes := #[dT] }) (v : Value) (hd : a.eval d = v) {g : Nat} {t : TypeId} {cur : List Value}
    (hg : BK w g t cur) {cs' : List Value} (hr : ∀ ty, (Builtin.clear_ #[dT] ty #[v]).run P w = .ok (.tuple #[]) (w.setRow g cs'.toArray))
    (h : ∀ w', Hid (BK w' g t cs') → Kg g w w' → wpList P ops Q rest (a.put o.dst (.tuple #[])) w') : wpList P ops Q (o :: rest) a w := by
  refine wpList_plain hgd fun K hK => ?_
  unfold Oper.wp execOp
  simp only [ho, resolve, invoke, builtin, Sem.run_bind, Sem.run_pure, Result.andThen_ok, List.map_toArray, List.map_cons, List.map_nil, hd, hr]
  exact hK _ _ (h _ (hg.setRow cs') (Kg.setRow _ _ _))
end
end Go.Proofs.YtfgbbmjnjppfnaaDoor
namespace Go.Proofs.YtfgbbmjnjppfnaaDoor
open Go.ChangeShapes Go.WideShapes Go.ChangeAt Go.RowKit
set_option linter.unusedVariables false
set_option linter.unusedSimpArgs false

theorem OW.setVal {w : World} {B : Nat} {e : TypeId} {g n c : Nat} {l : List IP} (h : OW w B e ePair (.slice (some ⟨g, 0, none⟩) n c) l) (k : Nat) (hk : k < l.length) (x : Int) :
    OW (w.setCell ⟨g, k * 2 + 1, none⟩ (.int .i64 x)) B e ePair (.slice (some ⟨g, 0, none⟩) n c) (l.set k (l[k].1, x)) := by
  obtain ⟨cur, hbk, hB, hnc, hcm, hcl, htk, hn⟩ := BK.of_ow h
  have hes : ePair.size = 2 := rfl
  rw [hes] at hcl htk
  have hn' : n = (l.set k (l[k].1, x)).length := by simp [hn]
  have hb2 : BK (w.setCell ⟨g, k * 2 + 1, none⟩ (.int .i64 x)) g e (cur.set (k * 2 + 1) (.int .i64 x)) := by
    unfold BK at hbk ⊢
    simp only [World.setCell, Array.getElem?_modify, hbk]
    simp
  rw [hn']
  refine BK.ow (E := ePair) hb2 hB (by omega) hcm (by rw [List.length_set, hcl, hes]) ?_
  have hf := flat_set_pair (l[k].1, x) l k
  rw [← hf, hes, List.take_set]
  simp only [List.length_set]
  rw [← hn, htk]
  congr 1
  symm
  apply List.ext_getElem?
  intro j
  by_cases hj : j = k * 2
  · subst hj
    have h1 := flat_at ePair l k hk 0 (by decide)
    rw [hes, Nat.add_zero] at h1
    rw [List.getElem?_set_self (by rw [flat_len, hes]; omega), h1]
    rfl
  · rw [List.getElem?_set_ne (by omega)]

theorem OW.cellPair {w : World} {B : Nat} {e : TypeId} {g n c : Nat} {l : List IP} (h : OW w B e ePair (.slice (some ⟨g, 0, none⟩) n c) l) (k : Nat) (hk : k < l.length) :
    w.cell? ⟨g, k * 2 + 1, none⟩ = some (.int .i64 l[k].2) ∧ w.frozen? ⟨g, k * 2 + 1, none⟩ = false := by
  obtain ⟨cur, hbk, _, _, _, _, _, hn⟩ := BK.of_ow h
  subst hn
  obtain ⟨b, o, e1, _, _, c1⟩ := h.rd.pair hk
  injection e1 with e1
  injection e1 with e2 e3
  subst e2 e3
  refine ⟨by rwa [Nat.zero_add] at c1, ?_⟩
  unfold BK at hbk
  simp [World.frozen?, hbk]

end Go.Proofs.YtfgbbmjnjppfnaaDoor
namespace Go.Proofs.YtfgbbmjnjppfnaaDoor
open Go.ChangeShapes Go.WideShapes Go.ChangeAt Go.RowKit
set_option linter.unusedVariables false
set_option linter.unusedSimpArgs false

theorem isNaN_any (n : Int) (w : World) : Calls Tryd.prog 87 #[.int .i64 n] w fun e w' => e = .returned (.bool false) ∧ w = w' := by
  have h : (n != n) = false := by simp
  go_enter Tryd.func87, Tryd.ntmps87
  go_wp2
  go_ret
  exact ⟨rfl, rfl⟩
def cmp3 (a b : Int) : Int := if a < b then -1 else if b < a then 1 else 0
theorem compare_any (a b : Int) (w : World) : Calls Tryd.prog 85 #[.int .i64 a, .int .i64 b] w fun e w' => e = .returned (.int .i64 (cmp3 a b)) ∧ w = w' := by
  rcases Int.lt_trichotomy a b with h | h | h
  · have hc : Hid (cmp3 a b = -1) := hide (by rw [cmp3, if_pos h])
    have h1 : decide (a < b) = true := by simp [h]
    clear h
    go_enter Tryd.func85, Tryd.ntmps85
    go_wp2_with (go_at_call 87; refine (isNaN_any _ _).mono ?_; rintro e w' ⟨rfl, rfl⟩)
    go_ret
    exact ⟨by rw [hc.out]; rfl, rfl⟩
  · have hc : Hid (cmp3 a b = 0) := hide (by rw [cmp3, if_neg (by omega), if_neg (by omega)])
    have h1 : decide (a < b) = false := by simp; omega
    have h2 : decide (b < a) = false := by simp; omega
    clear h
    go_enter Tryd.func85, Tryd.ntmps85
    go_wp2_with (go_at_call 87; refine (isNaN_any _ _).mono ?_; rintro e w' ⟨rfl, rfl⟩)
    go_ret
    exact ⟨by rw [hc.out]; rfl, rfl⟩
  · have hc : Hid (cmp3 a b = 1) := hide (by rw [cmp3, if_neg (by omega), if_pos h])
    have h1 : decide (a < b) = false := by simp; omega
    have h2 : decide (b < a) = true := by simp; omega
    clear h
    go_enter Tryd.func85, Tryd.ntmps85
    go_wp2_with (go_at_call 87; refine (isNaN_any _ _).mono ?_; rintro e w' ⟨rfl, rfl⟩)
    go_ret
    exact ⟨by rw [hc.out]; rfl, rfl⟩
theorem cmp3_neg (a b : Int) : decide (cmp3 a b < 0) = decide (a < b) := by
  unfold cmp3; split <;> (try split) <;> simp <;> omega
theorem cmp3_zero (a b : Int) : (cmp3 a b == 0) = (a == b) := by
  unfold cmp3; split <;> (try split) <;> simp <;> omega
theorem find1_any (a1 a2 k : Int) (w : World) : Calls Tryd.prog 84 #[.agg #[.int .i64 a1, .int .i64 a2], .int .i64 k] w (Ret (.int .i64 (cmp3 a1 k)) w) := by
  go_enter Tryd.func84, Tryd.ntmps84
  go_wp2_with (go_at_call 85; refine (compare_any _ _ _).mono ?_; rintro e w' ⟨rfl, rfl⟩)
  go_ret
  exact ⟨rfl, (Kp.refl w).alloc.bel⟩

/-- So many keys are less. -/
def below (l : List IP) (k : Int) : Nat := (l.filter fun p => decide (p.1 < k)).length
def hasKey (l : List IP) (k : Int) : Bool := l.any fun p => p.1 == k
def Rise (l : List IP) : Prop := ∀ i j (hi : i < l.length) (hj : j < l.length), i < j → l[i].1 < l[j].1
theorem Rise.tail {p : IP} {l : List IP} (h : Rise (p :: l)) : Rise l := fun i j hi hj hij => h (i + 1) (j + 1) (by simp; omega) (by simp; omega) (by omega)
theorem below_le (l : List IP) (k : Int) : below l k ≤ l.length := List.length_filter_le _ _
/-- In a list that rises: those ahead of the place are less, those from it on are not. -/
theorem below_cut : ∀ (l : List IP), Rise l → ∀ k i (hi : i < l.length), (i < below l k ↔ l[i].1 < k)
  | [], _, _, i, hi => by simp at hi
  | p :: t, h, k, i, hi => by
    have hz : ∀ j (hj : j < t.length), p.1 < t[j].1 := fun j hj => h 0 (j + 1) (by simp) (by simpa using hj) (by omega)
    by_cases hp : p.1 < k
    · have e : below (p :: t) k = below t k + 1 := by simp [below, List.filter_cons, hp]
      rw [e]
      cases i with
      | zero => simp [hp]
      | succ i =>
        simp only [List.getElem_cons_succ, Nat.add_lt_add_iff_right]
        exact below_cut t h.tail k i (by simpa using hi)
    · have e : below (p :: t) k = 0 := by
        have : ∀ x ∈ t, ¬ x.1 < k := fun x hx => by
          obtain ⟨j, hj, rfl⟩ := List.getElem_of_mem hx
          have := hz j hj; omega
        simp only [below, List.length_eq_zero_iff, List.filter_eq_nil_iff, decide_eq_true_eq, List.mem_cons]
        rintro x (rfl | hx)
        · exact hp
        · exact this x hx
      rw [e]
      cases i with
      | zero => simp [hp]
      | succ i =>
        simp only [List.getElem_cons_succ]
        have := hz i (by simpa using hi)
        omega
theorem hasKey_iff (l : List IP) (h : Rise l) (k : Int) : hasKey l k = true ↔ ∃ h : below l k < l.length, (l[below l k]'h).1 = k := by
  simp only [hasKey, List.any_eq_true, beq_iff_eq]
  constructor
  · rintro ⟨x, hx, hk⟩
    obtain ⟨j, hj, rfl⟩ := List.getElem_of_mem hx
    have h1 := (below_cut l h k j hj)
    have hb : below l k ≤ j := by omega
    have hlt : below l k < l.length := by omega
    refine ⟨hlt, ?_⟩
    have h2 := below_cut l h k (below l k) hlt
    rcases Nat.lt_or_ge (below l k) j with h3 | h3
    · have := h _ _ hlt hj h3; omega
    · have e : below l k = j := by omega
      simp only [e]; exact hk
  · rintro ⟨hlt, hk⟩
    exact ⟨_, List.getElem_mem hlt, hk⟩

def FRel (l : List IP) (k : Int) (w : World) (iv jv : Value) (wr : World) : Prop :=
  ∃ i j : Nat, i ≤ j ∧ j ≤ l.length ∧ iv = .int .i64 i ∧ jv = .int .i64 j ∧ i ≤ below l k ∧ below l k ≤ j ∧ Kp w wr

theorem half_up (i j : Nat) (hj : i + j ≤ 1000000) : IntKind.i64.wrap (IntKind.u64.wrap ((i : Int) + (j : Int)) / 2) = (((i + j) / 2 : Nat) : Int) := by
  have h1 : IntKind.u64.wrap ((i : Int) + (j : Int)) = (i : Int) + (j : Int) := by
    simp [IntKind.wrap, IntKind.bits, IntKind.signed]; omega
  rw [h1, IntWalk.i64_in _ (by omega)]
  omega

set_option maxRecDepth 100000 in
set_option maxHeartbeats 1000000 in
theorem bsf_any (l : List IP) (v : Value) (k : Int) (w : World) (hr : RD w ePair v l) (hn : l.length ≤ 1000) (hs : Rise l) :
    Calls Tryd.prog 83 #[v, .int .i64 k, .func (.func 84) #[] #[]] w (Ret (.tuple #[.int .i64 (below l k : Nat), .bool (hasKey l k)]) w) := by
  obtain ⟨A, c, rfl, hc, hm⟩ := hr.shape
  have HR := hide hr
  have HS := hide hs
  have hble := below_le l k
  clear hr hs
  go_enter Tryd.func83, Tryd.ntmps83
  go_wp2
  go_loopw [9, 10] (FRel l k w) (fun i j _ => (intOf j - intOf i).toNat)
  case atStart => exact ⟨0, l.length, by omega, by omega, rfl, rfl, by omega, hble, Kp.refl _⟩
  case round =>
    obtain ⟨i, j, hij, hj, rfl, rfl, hi2, hj2, hkp⟩ := hrel
    by_cases hlt : i < j
    · have hml : (i + j) / 2 < l.length := by omega
      obtain ⟨b, o, rfl, _, c0, c1⟩ := (HR.out.kp hkp).pair hml
      have hcut := below_cut l HS.out k ((i + j) / 2) hml
      have hcn := cmp3_neg l[(i + j) / 2].1 k
      have b1 : ((i : Int) + (j : Int)) / 2 < (l.length : Int) := by omega
      by_cases hd : l[(i + j) / 2].1 < k
      · have hd1 : decide (cmp3 l[(i + j) / 2].1 k < 0) = true := by rw [hcn]; simp [hd]
        have hb : (i + j) / 2 < below l k := hcut.2 hd
        clear hcut hcn hd
        go_wp2_with (go_at_call 84; refine (find1_any _ _ _ _).mono ?_; rintro e w1 ⟨rfl, hb1⟩)
        go_roundw
        case rel => exact ⟨(i + j) / 2 + 1, j, by omega, hj, by go_num, rfl, by omega, hj2, hkp.trans hb1⟩
        case measure => simp [intOf]; omega
      · have hd1 : decide (cmp3 l[(i + j) / 2].1 k < 0) = false := by rw [hcn]; simp; omega
        have hb : below l k ≤ (i + j) / 2 := by omega
        clear hcut hcn hd
        go_wp2_with (go_at_call 84; refine (find1_any _ _ _ _).mono ?_; rintro e w1 ⟨rfl, hb1⟩)
        go_roundw
        case rel => exact ⟨i, (i + j) / 2, by omega, by omega, rfl, by go_num, by omega, by omega, hkp.trans hb1⟩
        case measure => simp [intOf]; omega
    · have hib : Hid (i = below l k) := hide (by omega)
      by_cases hin : i < l.length
      · obtain ⟨b, o, rfl, _, c0, c1⟩ := (HR.out.kp hkp).pair hin
        have hcz := cmp3_zero l[i].1 k
        have hhk : Hid (hasKey l k = (l[i].1 == k)) := hide (by
          rw [Bool.eq_iff_iff, hasKey_iff l HS.out k, beq_iff_eq, ← hib.out]
          exact ⟨fun ⟨_, h⟩ => h, fun h => ⟨hin, h⟩⟩)
        have hd : decide ((i : Int) < (l.length : Int)) = true := by simp [hin]
        have hd' : decide (i < l.length) = true := by simp [hin]
        have HCZ := hide hcz
        clear hcz
        go_wp2_with (go_at_call 84; refine (find1_any _ _ _ _).mono ?_; rintro e w1 ⟨rfl, hb1⟩)
        go_ret2
        exact ⟨by rw [hhk.out, ← HCZ.out, ← hib.out]; rfl, (hkp.trans hb1).bel⟩
      · have hhk : Hid (hasKey l k = false) := hide (by
          rw [Bool.eq_false_iff]
          intro h
          obtain ⟨h1, _⟩ := (hasKey_iff l HS.out k).1 h
          omega)
        have hd' : decide (i < l.length) = false := by simp [hin]
        go_wp2
        go_ret2
        exact ⟨by rw [hhk.out, ← hib.out]; rfl, hkp.bel⟩

theorem find_any (l : List IP) (v : Value) (k : Int) (w : World) (hr : RD w ePair v l) (hn : l.length ≤ 1000) (hs : Rise l) :
    Calls Tryd.prog 77 #[v, .int .i64 k] w (Ret (.tuple #[.int .i64 (below l k : Nat), .bool (hasKey l k)]) w) := by
  have HC := hide (fun w h => bsf_any l v k w h hn hs)
  have HR := hide hr
  clear hr hs
  go_enter Tryd.func77, Tryd.ntmps77
  go_wp2_with fail
  refine (HC.out _ HR.out).mono ?_
  rintro e w1 ⟨rfl, hb1⟩
  go_wp2
  go_ret2
  exact ⟨rfl, hb1⟩
end Go.Proofs.YtfgbbmjnjppfnaaDoor
