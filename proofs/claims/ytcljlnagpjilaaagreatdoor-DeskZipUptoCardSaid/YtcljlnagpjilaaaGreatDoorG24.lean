/-
  goat.yard.cut: what it leaves
-/
import Derived.Test.YtcljlnagpjilaaaGreatDoorG23

set_option linter.unusedVariables false
set_option linter.unusedSimpArgs false
set_option maxRecDepth 100000
set_option maxHeartbeats 8000000
namespace Go.Proofs.YtcljlnagpjilaaaGreatDoor
open Go.ChangeShapes Go.WideShapes Go.ChangeAt Go.RowKit
section
variable {w w' w0 : World} {gy : Nat} {T t t' : MT IP} {F Fc Ft Ft' : List Nat} {key : Int} {C : List (Fm IP)} {q : Addr} {p p' : Option Addr} {many most built : Nat}
theorem At_.qne (ha : At_ w 256 eFst Prod.fst ⟨gy, 0, none⟩ T F key C q t p Fc Ft) (hy : gy ∉ F) (j : Nat) (hj : 0 < j) : q ≠ ⟨gy, j, none⟩ := fun e => by
 rcases ha.zp.at_ with h | h
 ·rw [h] at e
  injection e with _ e
  omega
 ·rw [e] at h; exact hy (ha.sub _ (.inr h))
theorem yr_putK (ha : At_ w 256 eFst Prod.fst ⟨gy, 0, none⟩ T F key C q t p Fc Ft) (hy : gy ∉ F) (hF : ∀ x ∈ F, w0.heap.size <= x) (hB : w0.heap.size <= gy) (hk0 : Kp w0 w)
  (hgl : gy < w.heap.size) (hf : ∀ j, w.frozen? ⟨gy, j, none⟩ = false) (hm : MR w 256 eFst t' p' Ft') (hs : ∀ x ∈ Ft', x ∈ Ft)
  (c1 : w.cell? ⟨gy, 1, none⟩ = some (.int .i64 (many : Int))) (c2 : w.cell? ⟨gy, 2, none⟩ = some (.int .i64 (most : Int))) (c3 : w.cell? ⟨gy, 3, none⟩ = some (.int .i64 (built : Int))) :
  YR (w.setCell q (.pointer p')) gy w0.heap.size ⟨plug C t', many, most, built⟩ /\ Kp w0 (w.setCell q (.pointer p')) := by
 obtain ⟨p0, F0, g1, g2, g3, g4, g5, g6⟩ := ha.putK hy (Kf.refl _ _) hgl (hf 0) hm hs
 have hk1 : Kp w0 (w.setCell q (.pointer p')) := g5.kp hk0 fun i hi => by
  rcases hi with rfl | hi
  ·exact hB
  ·exact hF i hi
 have hin : ∀ x ∈ F0, x ∈ F := fun x hx => by
  rcases g6 x hx with h | h
  ·exact ha.sub x (.inl (hs x h))
  ·exact ha.sub x (.inr h)
 refine ⟨⟨⟨p0, F0, g1, g4, g2, fun h => hy (hin _ h), fun x hx => hF x (hin x hx)⟩, ?_, ?_, ?_, fun j => ?_, hB⟩, hk1⟩
 ·rw [World.cell?_setCell_other _ _ _ _ (ha.qne hy 1 (by omega))]; exact c1
 ·rw [World.cell?_setCell_other _ _ _ _ (ha.qne hy 2 (by omega))]; exact c2
 ·rw [World.cell?_setCell_other _ _ _ _ (ha.qne hy 3 (by omega))]; exact c3
 ·rw [World.frozen?_setCell]; exact hf j
theorem yr_in (ha : At_ w 256 eFst Prod.fst ⟨gy, 0, none⟩ T F key C q t p Fc Ft) (hy : gy ∉ F) (hF : ∀ x ∈ F, w0.heap.size <= x) (hB : w0.heap.size <= gy) (hk0 : Kp w0 w)
  (hgl : gy < w.heap.size) (hf : ∀ j, w.frozen? ⟨gy, j, none⟩ = false) (hk : Kf (fun i => i ∈ Ft) w w') (hm : MR w' 256 eFst t' p Ft') (hs : ∀ x ∈ Ft', x ∈ Ft)
  (c1 : w.cell? ⟨gy, 1, none⟩ = some (.int .i64 (many : Int))) (c2 : w.cell? ⟨gy, 2, none⟩ = some (.int .i64 (most : Int))) (c3 : w.cell? ⟨gy, 3, none⟩ = some (.int .i64 (built : Int))) :
  YR w' gy w0.heap.size ⟨plug C t', many, most, built⟩ /\ Kp w0 w' := by
 have hgt : gy ∉ Ft := fun h => hy (ha.sub _ (.inl h))
 have hct : ∀ x ∈ Fc, x ∉ Ft := fun x hx hx' => ha.dis x hx' hx
 have hz := ha.zp.kf hk hgt hgl hct
 have hq : w'.cell? q = some (.pointer p) := hk.cell (by
  rcases ha.zp.at_ with h | h
  ·rw [h]; exact hgt
  ·exact hct _ h) ha.cell
 obtain ⟨p0, F0, g1, g2, g3⟩ := hz.close hq hm (fun x hx hx' => ha.dis x (hs x hx) hx')
 have hin : ∀ x ∈ F0, x ∈ F := fun x hx => by
  rcases (g3 x).1 hx with h | h
  ·exact ha.sub x (.inl (hs x h))
  ·exact ha.sub x (.inr h)
 have hk1 : Kp w0 w' := hk.kp hk0 fun i hi => hF i (ha.sub i (.inl hi))
 exact ⟨⟨⟨p0, F0, g1, (hk.frozen hgl hgt).trans (hf 0), g2, fun h => hy (hin _ h), fun x hx => hF x (hin x hx)⟩, hk.cell hgt c1, hk.cell hgt c2, hk.cell hgt c3, fun j => (hk.frozen (p := ⟨gy, j, none⟩) hgl hgt).trans (hf j), hB⟩, hk1⟩
end
def Cu1 (w : World) (r0 : Addr) (T : MT IP) (F : List Nat) (key : Int) (qv : Value) (wr : World) : Prop :=
 ∃ C q t p Fc Ft, qv = .pointer (some q) /\ At_ w 256 eFst Prod.fst r0 T F key C q t p Fc Ft /\ w = wr
def Cu2 (w : World) (r0 : Addr) (T : MT IP) (F : List Nat) (qv : Value) (wr : World) : Prop :=
 ∃ C q a x y p Fc Ft, qv = .pointer (some q) /\ At_ w 256 eFst (fun _ => 0) r0 T F (-1) C q (.node a x y) p Fc Ft /\ (∀ f ∈ C, f.left = true) /\ w = wr
theorem gtCut_any (S : Gt) (key : Int) (gy : Nat) (w0 w : World) (hy : YR w gy w0.heap.size S) (hk : Kp w0 w) (hok : GtOk S) (hm : S.many <= 500) (hmo : S.most <= 500) (hb : S.built <= 100000000) :
  Calls Tryz.prog 139 #[.pointer (some ⟨gy, 0, none⟩), .int .i64 key] w (YPost gy (S.cut key) w0) := by
 obtain ⟨⟨p0, F, t1, t2, t3, t4, t5⟩, y1, y2, y3, yf, yB⟩ := hy
 have hgl : gy < w.heap.size := World.block_lt_of_cell? _ _ t1
 have HY := hide (show YR w gy w0.heap.size S from ⟨⟨p0, F, t1, t2, t3, t4, t5⟩, y1, y2, y3, yf, yB⟩)
 have HA0 := hide (At_.start (kf := Prod.fst) key t1 t2 t3)
 have HK := hide hk
 have HOK := hide hok
 have HTS : Hid (S.T.size <= 500) := hide (by rw [<- hok.many]; exact hm)
 have H4 := hide t4
 have H5 := hide t5
 have HGL := hide hgl
 have HYF := hide yf
 have HB := hide yB
 have HM := hide hm
 have HMO := hide hmo
 have HBT := hide hb
 have HY1 := hide y1
 have HY2 := hide y2
 have HY3 := hide y3
 clear hk hok t1 t2 t3 t4 t5 hgl yf yB hm hmo hb y1 y2 y3
 go_enter Tryz.func139, Tryz.ntmps139
 go_wp2
 go_loopw [4] (Cu1 w ⟨gy, 0, none⟩ S.T F key) (fun qv _ => szAt 256 eFst qv w)
 case atStart => exact ⟨[], _, _, _, _, _, rfl, HA0.out, rfl⟩
 case round =>
  obtain ⟨C, q, t, p, Fc, Ft, rfl, ha, rfl⟩ := hrel
  have HA := hide ha
  have c0 := ha.cell
  have hmr := ha.mr
  cases p with
  | none =>
   obtain ⟨rfl, rfl⟩ := hmr.of_none
   have HIN : Hid (S.cut key = S) := hide (by
    have h1 : key ∉ kM S.T := by rw [HA.out.eq]; exact notin_plug C .nil key (by rw [<- HA.out.eq]; exact HOK.out.up) HA.out.dir (by intro h; cases h)
    unfold Gt.cut; rw [if_pos h1])
   clear ha hmr
   go_wp2
   exact bodyPost_ret (v := .tuple #[]) (by simp [results, Tryz.results139, go_sem]) rfl ⟨rfl, by rw [HIN.out]; exact HY.out, HK.out⟩
  | some ad =>
   obtain ⟨a, l, r, b, pl, pr, Fl, Fr, rfl, rfl, rfl, hb, g1, g2, g3, hl, hr⟩ := hmr.of_some
   have ck : w.cell? ⟨b, 0, none⟩ = some (.int .i64 a.1) := hb.cell 0
   have cl : w.cell? ⟨b, 1, none⟩ = some (.pointer pl) := hb.cell 1
   have cr : w.cell? ⟨b, 2, none⟩ = some (.pointer pr) := hb.cell 2
   have hms := szAt_eq ha.cell hmr
   have hml : ∀ h : True, szAt 256 eFst (.pointer (some ⟨b, 1, none⟩)) w = l.size := fun _ => szAt_eq (hb.link true) hl
   have hmr2 : ∀ h : True, szAt 256 eFst (.pointer (some ⟨b, 2, none⟩)) w = r.size := fun _ => szAt_eq (hb.link false) hr
   have HMS := hide hms
   have HML := hide hml
   have HMR := hide hmr2
   have HD := hide (ha.down hb g1 g2 g3 hl hr)
   have HBC := hide hb
   have HL := hide hl
   have HR := hide hr
   have G1 := hide g1
   have G2 := hide g2
   have G3 := hide g3
   clear hms hml hmr2 hmr ha hb g1 g2 g3 hl hr
   rcases Int.lt_trichotomy key a.1 with hkk | hkk | hkk
   ·have d1 : (a.1 != key) = true := by rw [bne_iff_ne]; omega
    have d2 : decide (key < a.1) = true := decide_eq_true hkk
    have HN := hide (HD.out.1 hkk)
    go_wp2
    go_roundw
    case rel => exact ⟨_, _, _, _, _, _, rfl, HN.out, rfl⟩
    case measure => rw [HML.out trivial, HMS.out]; simp only [MT.size]; omega
   ·have d1 : (a.1 != key) = false := by simp [hkk]
    have f0 := HA.out.fz
    have e2 := HYF.out 1
    have HIN : Hid (key ∈ kM S.T /\ del S.T key = plug C (delTop l r)) := hide (by
     refine ⟨by rw [HA.out.eq]; exact mem_plug C _ key (by simp [kM_node, hkk]), ?_⟩
     rw [HA.out.eq, del_plug C _ HA.out.dir, del, if_neg (by omega), if_neg (by omega)])
    have hds := del_sz S.T key HOK.out.up HIN.out.1
    have hmn := HOK.out.many
    have hmb := HM.out
    obtain ⟨m1, hm1⟩ : ∃ m1, S.many = m1 + 1 := ⟨S.many - 1, by omega⟩
    have hw1 : IntKind.i64.wrap ((S.many : Int) - 1) = (m1 : Int) := by rw [IntWalk.i64_in _ (by omega)]; omega
    have HM1 : Hid (S.many = m1 + 1 /\ (del S.T key).size = m1 /\ m1 <= 500) := hide (by omega)
    clear hkk hds hmn hmb hm1
    cases pl with
    | none =>
     obtain ⟨rfl, rfl⟩ := HL.out.of_none
     obtain ⟨hYR, hKW⟩ := yr_putK HA.out H4.out H5.out HB.out HK.out HGL.out HYF.out HR.out (fun x hx => by simp [hx]) HY1.out HY2.out HY3.out
     have hdt : delTop .nil r = r := by cases r <;> rfl
     rw [<- hdt, <- HIN.out.2] at hYR
     have HYR := hide hYR
     have HKW := hide hKW
     have e1 := hYR.2.1
     have e3 := hYR.2.2.2.2.1 1
     clear hYR hKW hdt
     go_wp2_with fail
     obtain ⟨W2, hW2⟩ : ∃ W2, W2 = w.setCell q (.pointer pr) := ⟨_, rfl⟩
     rw [<- hW2] at HYR HKW e1 ⊢
     clear hW2 e3
     obtain ⟨W3, hW3⟩ : ∃ W3, W3 = W2.setCell ⟨gy, 1, none⟩ (.int .i64 (m1 : Int)) := ⟨_, rfl⟩
     rw [<- hW3]
     have hY3 : YR W3 gy w0.heap.size ⟨del S.T key, m1, S.most, S.built⟩ := by
      rw [hW3]
      refine HYR.out.set (by omega) rfl ?_ ?_ ?_
      ·exact World.cell?_setCell_same' W2 _ _ (by rw [e1]; rfl)
      ·rw [World.cell?_setCell_other _ _ _ _ (by simp)]; exact HYR.out.2.2.1
      ·rw [World.cell?_setCell_other _ _ _ _ (by simp)]; exact HYR.out.2.2.2.1
     have hkw3 : Kp w0 W3 := by rw [hW3]; exact kp_setY HKW.out HB.out
     have g1 : W3.cell? ⟨gy, 1, none⟩ = some (.int .i64 (m1 : Int)) := hY3.2.1
     have g2 : W3.cell? ⟨gy, 2, none⟩ = some (.int .i64 (S.most : Int)) := hY3.2.2.1
     have hm12 := HM1.out
     have hmob := HMO.out
     obtain ⟨P3, hP3⟩ : ∃ x, x = 3 * m1 := ⟨_, rfl⟩
     obtain ⟨Q2, hQ2⟩ : ∃ x, x = 2 * S.most := ⟨_, rfl⟩
     have v1 : IntKind.i64.wrap (3 * (m1 : Int)) = (P3 : Int) := by rw [IntWalk.i64_in _ (by omega)]; omega
     have v2 : IntKind.i64.wrap (2 * (S.most : Int)) = (Q2 : Int) := by rw [IntWalk.i64_in _ (by omega)]; omega
     have HCUT : Hid (S.cut key = if P3 < Q2 then ⟨evenT (kM (del S.T key)), m1, m1, S.built + m1⟩ else ⟨del S.T key, m1, S.most, S.built⟩) := hide (by
      unfold Gt.cut
      rw [if_neg (by simpa using HIN.out.1), show S.many - 1 = m1 by omega, hP3, hQ2])
     have HY3' := hide hY3
     have HKW3 := hide hkw3
     clear hW3 hY3 hkw3 hm12 hmob hP3 hQ2 e1
     by_cases hpq : P3 < Q2
     ·have d3 : decide (P3 < Q2) = true := decide_eq_true hpq
      have HP : Hid (S.cut key = ⟨evenT (kM (del S.T key)), m1, m1, S.built + m1⟩) := hide (by rw [HCUT.out, if_pos hpq])
      clear hpq
      go_quiet (fail)
      go_wp2_with fail
      obtain ⟨wn, hwn⟩ : ∃ x, x = W3.drewN nq := ⟨_, rfl⟩
      rw [<- hwn]
      have kn : Kp W3 wn := by rw [hwn]; exact (Kp.refl _).drewN
      clear hwn
      obtain ⟨⟨p1, F1, s1, s2, s3, s4, s5⟩, s7, s8, s9, s6, _⟩ := HY3'.out.kp kn
      have HAN := hide (gtAnew_any (w0 := w0) m1 S.most S.built (At_.start (kf := Prod.fst) key s1 s2 s3) s4 s5 s3.lt HB.out (HKW3.out.trans kn) s7 s8 s9 s6 (by have := HM1.out; simp only; omega) (by have := HM1.out; have := HBT.out; simp only; omega))
      clear s1 s2 s3 s4 s5 s6 s7 s8 s9 kn
      refine HAN.out.mono ?_
      rintro e w6 ⟨rfl, hy6, hk6⟩
      have x1 : w6.cell? ⟨gy, 1, none⟩ = some (.int .i64 (m1 : Int)) := hy6.2.1
      have x2 := hy6.2.2.1
      have x3 := hy6.2.2.2.2.1 2
      have HY6 := hide hy6
      have HK6 := hide hk6
      clear hy6 hk6
      go_wp2
      have hY7 : YR (w6.setCell ⟨gy, 2, none⟩ (.int .i64 (m1 : Int))) gy w0.heap.size (S.cut key) := by
       rw [HP.out]
       refine HY6.out.set (by omega) (by simp [plug]) ?_ ?_ ?_
       ·rw [World.cell?_setCell_other _ _ _ _ (by simp)]; exact x1
       ·exact World.cell?_setCell_same' w6 _ _ (by rw [x2]; rfl)
       ·rw [World.cell?_setCell_other _ _ _ _ (by simp)]; have h9 := HY6.out.2.2.2.1; simp only [HM1.out.2.1] at h9; exact h9
      exact bodyPost_ret (v := .tuple #[]) (by simp [results, Tryz.results139, go_sem]) rfl ⟨rfl, hY7, kp_setY HK6.out HB.out⟩
     ·have d3 : decide (P3 < Q2) = false := decide_eq_false hpq
      have HP : Hid (S.cut key = ⟨del S.T key, m1, S.most, S.built⟩) := hide (by rw [HCUT.out, if_neg hpq])
      clear hpq
      go_quiet (fail)
      go_wp2
      exact bodyPost_ret (v := .tuple #[]) (by simp [results, Tryz.results139, go_sem]) rfl ⟨rfl, by rw [HP.out]; exact HY3'.out.kp (by (exact Kp.auto)), (by have k9 := HKW3.out; (exact Kp.auto))⟩
    | some al =>
     obtain ⟨a2, l2, r2, b2, pl2, pr2, Fl2, Fr2, rfl, rfl, rfl, _⟩ := HL.out.of_some
     cases pr with
     | none =>
      obtain ⟨rfl, rfl⟩ := HR.out.of_none
      obtain ⟨hYR, hKW⟩ := yr_putK HA.out H4.out H5.out HB.out HK.out HGL.out HYF.out HL.out (fun x hx => by simp at hx ⊢; rcases hx with h | h | h <;> simp [h]) HY1.out HY2.out HY3.out
      have hdt : delTop (.node a2 l2 r2) .nil = .node a2 l2 r2 := rfl
      rw [<- hdt, <- HIN.out.2] at hYR
      have HYR := hide hYR
      have HKW := hide hKW
      have e1 := hYR.2.1
      have e3 := hYR.2.2.2.2.1 1
      clear hYR hKW hdt
      go_wp2_with fail
      obtain ⟨W2, hW2⟩ : ∃ W2, W2 = w.setCell q (.pointer (some ⟨b2, 0, none⟩)) := ⟨_, rfl⟩
      rw [<- hW2] at HYR HKW e1 ⊢
      clear hW2 e3
      obtain ⟨W3, hW3⟩ : ∃ W3, W3 = W2.setCell ⟨gy, 1, none⟩ (.int .i64 (m1 : Int)) := ⟨_, rfl⟩
      rw [<- hW3]
      have hY3 : YR W3 gy w0.heap.size ⟨del S.T key, m1, S.most, S.built⟩ := by
       rw [hW3]
       refine HYR.out.set (by omega) rfl ?_ ?_ ?_
       ·exact World.cell?_setCell_same' W2 _ _ (by rw [e1]; rfl)
       ·rw [World.cell?_setCell_other _ _ _ _ (by simp)]; exact HYR.out.2.2.1
       ·rw [World.cell?_setCell_other _ _ _ _ (by simp)]; exact HYR.out.2.2.2.1
      have hkw3 : Kp w0 W3 := by rw [hW3]; exact kp_setY HKW.out HB.out
      have g1 : W3.cell? ⟨gy, 1, none⟩ = some (.int .i64 (m1 : Int)) := hY3.2.1
      have g2 : W3.cell? ⟨gy, 2, none⟩ = some (.int .i64 (S.most : Int)) := hY3.2.2.1
      have hm12 := HM1.out
      have hmob := HMO.out
      obtain ⟨P3, hP3⟩ : ∃ x, x = 3 * m1 := ⟨_, rfl⟩
      obtain ⟨Q2, hQ2⟩ : ∃ x, x = 2 * S.most := ⟨_, rfl⟩
      have v1 : IntKind.i64.wrap (3 * (m1 : Int)) = (P3 : Int) := by rw [IntWalk.i64_in _ (by omega)]; omega
      have v2 : IntKind.i64.wrap (2 * (S.most : Int)) = (Q2 : Int) := by rw [IntWalk.i64_in _ (by omega)]; omega
      have HCUT : Hid (S.cut key = if P3 < Q2 then ⟨evenT (kM (del S.T key)), m1, m1, S.built + m1⟩ else ⟨del S.T key, m1, S.most, S.built⟩) := hide (by
       unfold Gt.cut
       rw [if_neg (by simpa using HIN.out.1), show S.many - 1 = m1 by omega, hP3, hQ2])
      have HY3' := hide hY3
      have HKW3 := hide hkw3
      clear hW3 hY3 hkw3 hm12 hmob hP3 hQ2 e1
      by_cases hpq : P3 < Q2
      ·have d3 : decide (P3 < Q2) = true := decide_eq_true hpq
       have HP : Hid (S.cut key = ⟨evenT (kM (del S.T key)), m1, m1, S.built + m1⟩) := hide (by rw [HCUT.out, if_pos hpq])
       clear hpq
       go_quiet (fail)
       go_wp2_with fail
       obtain ⟨wn, hwn⟩ : ∃ x, x = W3.drewN nq := ⟨_, rfl⟩
       rw [<- hwn]
       have kn : Kp W3 wn := by rw [hwn]; exact (Kp.refl _).drewN
       clear hwn
       obtain ⟨⟨p1, F1, s1, s2, s3, s4, s5⟩, s7, s8, s9, s6, _⟩ := HY3'.out.kp kn
       have HAN := hide (gtAnew_any (w0 := w0) m1 S.most S.built (At_.start (kf := Prod.fst) key s1 s2 s3) s4 s5 s3.lt HB.out (HKW3.out.trans kn) s7 s8 s9 s6 (by have := HM1.out; simp only; omega) (by have := HM1.out; have := HBT.out; simp only; omega))
       clear s1 s2 s3 s4 s5 s6 s7 s8 s9 kn
       refine HAN.out.mono ?_
       rintro e w6 ⟨rfl, hy6, hk6⟩
       have x1 : w6.cell? ⟨gy, 1, none⟩ = some (.int .i64 (m1 : Int)) := hy6.2.1
       have x2 := hy6.2.2.1
       have x3 := hy6.2.2.2.2.1 2
       have HY6 := hide hy6
       have HK6 := hide hk6
       clear hy6 hk6
       go_wp2
       have hY7 : YR (w6.setCell ⟨gy, 2, none⟩ (.int .i64 (m1 : Int))) gy w0.heap.size (S.cut key) := by
        rw [HP.out]
        refine HY6.out.set (by omega) (by simp [plug]) ?_ ?_ ?_
        ·rw [World.cell?_setCell_other _ _ _ _ (by simp)]; exact x1
        ·exact World.cell?_setCell_same' w6 _ _ (by rw [x2]; rfl)
        ·rw [World.cell?_setCell_other _ _ _ _ (by simp)]; have h9 := HY6.out.2.2.2.1; simp only [HM1.out.2.1] at h9; exact h9
       exact bodyPost_ret (v := .tuple #[]) (by simp [results, Tryz.results139, go_sem]) rfl ⟨rfl, hY7, kp_setY HK6.out HB.out⟩
      ·have d3 : decide (P3 < Q2) = false := decide_eq_false hpq
       have HP : Hid (S.cut key = ⟨del S.T key, m1, S.most, S.built⟩) := hide (by rw [HCUT.out, if_neg hpq])
       clear hpq
       go_quiet (fail)
       go_wp2
       exact bodyPost_ret (v := .tuple #[]) (by simp [results, Tryz.results139, go_sem]) rfl ⟨rfl, by rw [HP.out]; exact HY3'.out.kp (by (exact Kp.auto)), (by have k9 := HKW3.out; (exact Kp.auto))⟩
     | some ar =>
      obtain ⟨a3, l3, r3, b3, pl3, pr3, Fl3, Fr3, rfl, rfl, rfl, _⟩ := HR.out.of_some
      have HA2 := hide (At_.start (kf := fun _ => 0) (-1) cr (HBC.out.frozen 2) HR.out)
      have hfb : w.frozen? ⟨b, 0, none⟩ = false := HBC.out.frozen 0
      go_wp2
      go_loopw [6] (Cu2 w ⟨b, 2, none⟩ (.node a3 l3 r3) (b3 :: (Fl3 ++ Fr3))) (szAt 256 eFst)
      case atStart => exact ⟨_, _, _, _, _, _, _, _, rfl, HA2.out, (fun f hf => by cases hf), rfl⟩
      case round =>
       obtain ⟨C2, q2, m, x, y, p2, Fc2, Ft2, rfl, ha2, hleft, rfl⟩ := hrel
       obtain ⟨b4, pl4, pr4, Fl4, Fr4, rfl, rfl, hb4, i1, i2, i3, hl4, hr4⟩ := ha2.mr
       have c2 := ha2.cell
       have ck4 : w.cell? ⟨b4, 0, none⟩ = some (.int .i64 m.1) := hb4.cell 0
       have cl4 : w.cell? ⟨b4, 1, none⟩ = some (.pointer pl4) := hb4.cell 1
       have cr4 : w.cell? ⟨b4, 2, none⟩ = some (.pointer pr4) := hb4.cell 2
       have HLF := hide hleft
       cases pl4 with
       | some ad4 =>
        obtain ⟨a5, l5, r5, b5, pl5, pr5, Fl5, Fr5, rfl, rfl, rfl, _⟩ := hl4.of_some
        have HD2 := hide ((ha2.down hb4 i1 i2 i3 hl4 hr4).1 (by decide))
        have hms := szAt_eq c2 ha2.mr
        have hml : ∀ h : True, szAt 256 eFst (.pointer (some ⟨b4, 1, none⟩)) w = (MT.node a5 l5 r5).size := fun _ => szAt_eq (hb4.link true) hl4
        have HMS2 := hide hms
        have HML2 := hide hml
        clear hms hml ha2 hleft hb4 i1 i2 i3 hl4 hr4
        go_wp2
        go_roundw
        case rel => exact ⟨_, _, _, _, _, _, _, _, rfl, HD2.out, (fun f hf => by rcases List.mem_cons.1 hf with rfl | hf; rfl; exact HLF.out f hf), rfl⟩
        case measure => rw [HML2.out trivial, HMS2.out]; simp only [MT.size]; omega
       | none =>
        obtain ⟨rfl, rfl⟩ := hl4.of_none
        have hbF : b ∉ b3 :: (Fl3 ++ Fr3) := G2.out
        have hb4F : b4 ∈ b3 :: (Fl3 ++ Fr3) := ha2.sub b4 (.inl (by simp))
        have hb4c : b4 ∉ Fc2 := ha2.dis b4 (by simp)
        have hbb4 : b ≠ b4 := fun e => hbF (by rw [e]; exact hb4F)
        have hq2 : q2 = ⟨b, 2, none⟩ ∨ q2.block ∈ Fc2 := ha2.zp.at_
        have hq2n : q2 ≠ ⟨b, 0, none⟩ := fun e => by
         rcases hq2 with h | h
         ·rw [h] at e; injection e with _ e; omega
         ·rw [e] at h; exact hbF (ha2.sub _ (.inr h))
        have hq2F : q2.block ∈ b :: (b2 :: (Fl2 ++ Fr2) ++ b3 :: (Fl3 ++ Fr3)) := by
         rcases hq2 with e | h
         ·rw [e]; simp
         ·have := ha2.sub _ (.inr h); simp only [List.mem_cons, List.mem_append] at this ⊢; exact .inr (.inr this)
        have hq2L : q2.block ∉ b2 :: (Fl2 ++ Fr2) := by
         rcases hq2 with e | h
         ·rw [e]; exact G1.out
         ·intro h'; exact G3.out _ h' (ha2.sub _ (.inr h))
        have hblt : b < w.heap.size := HBC.out.lt
        obtain ⟨W1, hW1⟩ : ∃ W1, W1 = w.setCell ⟨b, 0, none⟩ (.int .i64 m.1) := ⟨_, rfl⟩
        have hblk : ∀ i, i ≠ b -> W1.heap[i]? = w.heap[i]? := fun i hi => by rw [hW1]; exact Below.heap_setCell _ _ _ _ hi
        have hcell : ∀ a : Addr, a ≠ ⟨b, 0, none⟩ -> W1.cell? a = w.cell? a := fun a ha => by rw [hW1]; exact World.cell?_setCell_other _ _ _ _ (fun e => ha e.symm)
        have hfrz : ∀ a : Addr, W1.frozen? a = w.frozen? a := fun a => by rw [hW1]; exact World.frozen?_setCell _ _ _ _
        have hz1 : W1.heap.size = w.heap.size := by rw [hW1]; simp [World.setCell]
        have ha3 : At_ W1 256 eFst (fun _ => 0) ⟨b, 2, none⟩ (.node a3 l3 r3) (b3 :: (Fl3 ++ Fr3)) (-1) C2 q2 (.node m .nil y) (some ⟨b4, 0, none⟩) Fc2 (b4 :: ([] ++ Fr4)) :=
         ha2.keep (hcell _ (by simp)) (hfrz _) (fun i hi => hblk i (fun e => hbF (e ▸ hi)))
        have hr4' : MR W1 256 eFst y pr4 Fr4 := MR.keep (fun i hi => hblk i (fun e => hbF (by rw [<- e]; exact ha2.sub i (.inl (by simp [hi]))))) hr4
        obtain ⟨p5, F5, x1, x2, _, _, x5, x6⟩ := ha3.putK hbF (Kf.refl _ _) (by rw [hz1]; exact hblt) (by rw [hfrz]; exact HBC.out.frozen 2) hr4' (fun x hx => by simp [hx])
        have hF5 : ∀ x ∈ F5, x ∈ b3 :: (Fl3 ++ Fr3) := fun x hx => by
         rcases x6 x hx with h | h
         ·exact ha2.sub x (.inl (by simp [h]))
         ·exact ha2.sub x (.inr h)
        obtain ⟨hmin1, hmin2, _⟩ := min_plug C2 m .nil y hleft
        have hreq : delTop (.node a2 l2 r2) (.node a3 l3 r3) = .node m (.node a2 l2 r2) (plug C2 y) := by
         have e := ha2.eq
         rw [delTop_nn, e, hmin1, hmin2]; rfl
        have hbc1 : BC W1 b 256 (nodeC eFst m (some ⟨b2, 0, none⟩) (some ⟨b3, 0, none⟩)) := by rw [hW1]; exact HBC.out.set (j := 0)
        have hbc2 : BC (W1.setCell q2 (.pointer pr4)) b 256 (nodeC eFst m (some ⟨b2, 0, none⟩) p5) := by
         rcases hq2 with e | h
         ·have h3 : BC (W1.setCell q2 (.pointer pr4)) b 256 (nodeC eFst m (some ⟨b2, 0, none⟩) pr4) := by rw [e]; exact hbc1.set (j := 2)
          have h4 := h3.cell 2
          rw [x1] at h4
          injection h4 with h4
          injection h4 with h4
          rw [h4]; exact h3
         ·have h3 : BC (W1.setCell q2 (.pointer pr4)) b 256 (nodeC eFst m (some ⟨b2, 0, none⟩) (some ⟨b3, 0, none⟩)) := hbc1.far (fun e => hbF (by rw [e]; exact ha2.sub _ (.inr h)))
          have h4 := h3.cell 2
          rw [x1] at h4
          injection h4 with h4
          injection h4 with h4
          rw [h4]; exact h3
        have hL1 : MR (W1.setCell q2 (.pointer pr4)) 256 eFst (.node a2 l2 r2) (some ⟨b2, 0, none⟩) (b2 :: (Fl2 ++ Fr2)) := MR.set (MR.keep (fun i hi => hblk i (fun e => G1.out (e ▸ hi))) HL.out) hq2L
        have hmr2 := MR.mk hbc2 G1.out (fun h => hbF (hF5 b h)) (fun x hx h => G3.out x hx (hF5 x h)) hL1 x2
        have hkf : Kf (fun i => i ∈ b :: (b2 :: (Fl2 ++ Fr2) ++ b3 :: (Fl3 ++ Fr3))) w (W1.setCell q2 (.pointer pr4)) := by
         rw [hW1]
         exact ((Kf.refl _ _).set (.inl (by simp))).set (.inl hq2F)
        obtain ⟨hYR, hKW⟩ := yr_in HA.out H4.out H5.out HB.out HK.out HGL.out HYF.out hkf hmr2 (fun x hx => by
         simp only [List.mem_cons, List.mem_append] at hx ⊢
         rcases hx with h | h | h
         ·exact .inl h
         ·exact .inr (.inl h)
         ·have := hF5 x h; simp only [List.mem_cons, List.mem_append] at this; exact .inr (.inr this)) HY1.out HY2.out HY3.out
        rw [<- hreq, <- HIN.out.2] at hYR
        have u1 : W1.cell? q2 = some (.pointer (some ⟨b4, 0, none⟩)) := (hcell _ hq2n).trans c2
        have u2 : W1.cell? ⟨b4, 2, none⟩ = some (.pointer pr4) := (hcell _ (by simp)).trans cr4
        have u3 : W1.frozen? q2 = false := (hfrz _).trans ha2.fz
        have HYR := hide hYR
        have HKW := hide hKW
        have e1 := hYR.2.1
        have e3 := hYR.2.2.2.2.1 1
        have HW1 := hide hW1
        rw [hW1] at u1 u2 u3 e1 e3 HYR HKW
        clear ha2 hleft hb4 i1 i2 i3 hl4 hr4 hbF hb4F hb4c hbb4 hq2 hq2n hq2F hq2L hblt hblk hcell hfrz hz1 ha3 hr4' x1 x2 x5 x6 hF5 hmin1 hmin2 hreq hbc1 hbc2 hL1 hmr2 hkf hYR hKW hW1 cl cr
        go_wp2_with fail
        obtain ⟨W2, hW2⟩ : ∃ W2, W2 = (w.setCell ⟨b, 0, none⟩ (.int .i64 m.1)).setCell q2 (.pointer pr4) := ⟨_, rfl⟩
        rw [<- hW2] at HYR HKW e1 ⊢
        clear hW2 e3
        obtain ⟨W3, hW3⟩ : ∃ W3, W3 = W2.setCell ⟨gy, 1, none⟩ (.int .i64 (m1 : Int)) := ⟨_, rfl⟩
        rw [<- hW3]
        have hY3 : YR W3 gy w0.heap.size ⟨del S.T key, m1, S.most, S.built⟩ := by
         rw [hW3]
         refine HYR.out.set (by omega) rfl ?_ ?_ ?_
         ·exact World.cell?_setCell_same' W2 _ _ (by rw [e1]; rfl)
         ·rw [World.cell?_setCell_other _ _ _ _ (by simp)]; exact HYR.out.2.2.1
         ·rw [World.cell?_setCell_other _ _ _ _ (by simp)]; exact HYR.out.2.2.2.1
        have hkw3 : Kp w0 W3 := by rw [hW3]; exact kp_setY HKW.out HB.out
        have g1 : W3.cell? ⟨gy, 1, none⟩ = some (.int .i64 (m1 : Int)) := hY3.2.1
        have g2 : W3.cell? ⟨gy, 2, none⟩ = some (.int .i64 (S.most : Int)) := hY3.2.2.1
        have hm12 := HM1.out
        have hmob := HMO.out
        obtain ⟨P3, hP3⟩ : ∃ x, x = 3 * m1 := ⟨_, rfl⟩
        obtain ⟨Q2, hQ2⟩ : ∃ x, x = 2 * S.most := ⟨_, rfl⟩
        have v1 : IntKind.i64.wrap (3 * (m1 : Int)) = (P3 : Int) := by rw [IntWalk.i64_in _ (by omega)]; omega
        have v2 : IntKind.i64.wrap (2 * (S.most : Int)) = (Q2 : Int) := by rw [IntWalk.i64_in _ (by omega)]; omega
        have HCUT : Hid (S.cut key = if P3 < Q2 then ⟨evenT (kM (del S.T key)), m1, m1, S.built + m1⟩ else ⟨del S.T key, m1, S.most, S.built⟩) := hide (by
         unfold Gt.cut
         rw [if_neg (by simpa using HIN.out.1), show S.many - 1 = m1 by omega, hP3, hQ2])
        have HY3' := hide hY3
        have HKW3 := hide hkw3
        clear hW3 hY3 hkw3 hm12 hmob hP3 hQ2 e1
        by_cases hpq : P3 < Q2
        ·have d3 : decide (P3 < Q2) = true := decide_eq_true hpq
         have HP : Hid (S.cut key = ⟨evenT (kM (del S.T key)), m1, m1, S.built + m1⟩) := hide (by rw [HCUT.out, if_pos hpq])
         clear hpq
         go_quiet (fail)
         go_wp2_with fail
         obtain ⟨wn, hwn⟩ : ∃ x, x = W3.drewN nq := ⟨_, rfl⟩
         rw [<- hwn]
         have kn : Kp W3 wn := by rw [hwn]; exact (Kp.refl _).drewN
         clear hwn
         obtain ⟨⟨p1, F1, s1, s2, s3, s4, s5⟩, s7, s8, s9, s6, _⟩ := HY3'.out.kp kn
         have HAN := hide (gtAnew_any (w0 := w0) m1 S.most S.built (At_.start (kf := Prod.fst) key s1 s2 s3) s4 s5 s3.lt HB.out (HKW3.out.trans kn) s7 s8 s9 s6 (by have := HM1.out; simp only; omega) (by have := HM1.out; have := HBT.out; simp only; omega))
         clear s1 s2 s3 s4 s5 s6 s7 s8 s9 kn
         refine HAN.out.mono ?_
         rintro e w6 ⟨rfl, hy6, hk6⟩
         have x1 : w6.cell? ⟨gy, 1, none⟩ = some (.int .i64 (m1 : Int)) := hy6.2.1
         have x2 := hy6.2.2.1
         have x3 := hy6.2.2.2.2.1 2
         have HY6 := hide hy6
         have HK6 := hide hk6
         clear hy6 hk6
         go_wp2
         have hY7 : YR (w6.setCell ⟨gy, 2, none⟩ (.int .i64 (m1 : Int))) gy w0.heap.size (S.cut key) := by
          rw [HP.out]
          refine HY6.out.set (by omega) (by simp [plug]) ?_ ?_ ?_
          ·rw [World.cell?_setCell_other _ _ _ _ (by simp)]; exact x1
          ·exact World.cell?_setCell_same' w6 _ _ (by rw [x2]; rfl)
          ·rw [World.cell?_setCell_other _ _ _ _ (by simp)]; have h9 := HY6.out.2.2.2.1; simp only [HM1.out.2.1] at h9; exact h9
         exact bodyPost_ret (v := .tuple #[]) (by simp [results, Tryz.results139, go_sem]) rfl ⟨rfl, hY7, kp_setY HK6.out HB.out⟩
        ·have d3 : decide (P3 < Q2) = false := decide_eq_false hpq
         have HP : Hid (S.cut key = ⟨del S.T key, m1, S.most, S.built⟩) := hide (by rw [HCUT.out, if_neg hpq])
         clear hpq
         go_quiet (fail)
         go_wp2
         exact bodyPost_ret (v := .tuple #[]) (by simp [results, Tryz.results139, go_sem]) rfl ⟨rfl, by rw [HP.out]; exact HY3'.out.kp (by (exact Kp.auto)), (by have k9 := HKW3.out; (exact Kp.auto))⟩
   ·have d1 : (a.1 != key) = true := by rw [bne_iff_ne]; omega
    have d2 : decide (key < a.1) = false := decide_eq_false (by omega)
    have HN := hide (HD.out.2 hkk)
    go_wp2
    go_roundw
    case rel => exact ⟨_, _, _, _, _, _, rfl, HN.out, rfl⟩
    case measure => rw [HMR.out trivial, HMS.out]; simp only [MT.size]; omega
end Go.Proofs.YtcljlnagpjilaaaGreatDoor
