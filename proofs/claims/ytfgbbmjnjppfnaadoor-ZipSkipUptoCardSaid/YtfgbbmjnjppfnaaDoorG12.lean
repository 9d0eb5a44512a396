/-
  zip.Split, Merge: what they answer. Conditions: the lists read as they are named (RD); the table of math/bits holds what it is laid with (DTb).
  Plain laws: what zip.read reads of spots; parted and put together a zipped tree is as it was. No program. Conditions: none.
  The heights by bits, plainly: what exchanged, timesTwo and bit make of a number (exN, mulN, bitN), and that the loop of hedgref.HeightOf ends at skip.Height's answer. No conditions.
  hedgref.HeightOf with bit, exchanged, timesTwo: HeightOf answers what skip.Height answers (hgtF). No conditions but that the numbers are of 64 bits.
-/
import Derived.Test.YtfgbbmjnjppfnaaDoorG8
import Derived.Test.YtfgbbmjnjppfnaaDoorG11
import Derived.Test.YtfgbbmjnjppfnaaDoorG1
import Derived.Laws.Bits64b

namespace Go.Proofs.YtfgbbmjnjppfnaaDoor
open Go.ChangeShapes Go.WideShapes Go.ChangeAt Go.RowKit
set_option linter.unusedVariables false
set_option linter.unusedSimpArgs false

theorem mtP_sizeZ (ks : List Int) : ∀ t : PT, (mtP ks t).size = t.size
  | .nil => rfl
  | .node p l r => by simp [mtP, MT.size, PT.size, mtP_sizeZ ks l, mtP_sizeZ ks r]
theorem readZ_size (l : List IP) : (readZ l).1.size ≤ 200 ∧ ((readZ l).2 = 0 → (parOf l).2 = 0 ∧ (readZ l).1.size = l.length ∧ l.length ≤ 200) := by
  unfold readZ
  by_cases h0 : (parOf l).2 = 0
  · obtain ⟨hlen, hmr, t, hpt, hpo⟩ := parOf_len l h0
    obtain ⟨hta, hts, _⟩ := ptR_to l 0 l.length 0 t (by omega) hpt
    rw [if_neg (by simp [h0])]
    split
    · rw [hpt]
      simp only [mtP_sizeZ]
      exact ⟨by omega, fun _ => ⟨h0, by omega, hlen⟩⟩
    · exact ⟨by simp [MT.size], fun h => by simp at h⟩
  · rw [if_pos h0]
    exact ⟨by simp [MT.size], fun h => absurd h h0⟩
def splitZ (l : List IP) (key : Int) : List IP × List IP × Int :=
  if (readZ l).2 ≠ 0 then ([], [], (readZ l).2) else if key < 0 ∨ 1000000 < key then ([], [], 1) else
  ((unz (mapZ (readZ l).1) key).1.spotsBy Prod.fst 0, (unz (mapZ (readZ l).1) key).2.spotsBy Prod.fst 0, 0)
def SpPost (r : List IP × List IP × Int) (w : World) (e : Ending) (w' : World) : Prop := ∃ v u, e = .returned (.tuple #[v, u, .int .i64 r.2.2]) ∧ RD w' ePair v r.1 ∧ RD w' ePair u r.2.1 ∧ Below w.heap.size w w'
set_option maxRecDepth 100000 in
set_option maxHeartbeats 4000000 in
theorem zipSplit_any (l : List IP) (key : Int) (v : Value) (w : World) (hr : RD w ePair v l) (hdb : DTb w) : Calls Tryd.prog 9 #[v, .int .i64 key] w (SpPost (splitZ l key) w) := by
  obtain ⟨A, c, rfl, hc, hm⟩ := hr.shape
  have HRE := hide (zipRead_any l _ w hr hdb)
  unfold ZRPost at HRE
  obtain ⟨hz, _⟩ := readZ_size l
  clear hr hdb
  obtain ⟨⟨T, er⟩, hP⟩ : ∃ P, P = readZ l := ⟨_, rfl⟩
  have hsp : splitZ l key = if er ≠ 0 then ([], [], er) else if key < 0 ∨ 1000000 < key then ([], [], 1) else ((unz (mapZ T) key).1.spotsBy Prod.fst 0, (unz (mapZ T) key).2.spotsBy Prod.fst 0, 0) := by rw [splitZ, ← hP]
  rw [← hP] at HRE hz
  simp only at HRE hz
  have hus := unz_size (mapZ T) key
  rw [mapZ_size] at hus
  clear hP
  by_cases he : er = 0
  · subst he
    by_cases hk : key < 0 ∨ 1000000 < key
    · have H1 : Hid (splitZ l key = ([], [], 1)) := hide (by rw [hsp, if_neg (by simp), if_pos hk])
      clear hsp hus
      go_enter Tryd.func9, Tryd.ntmps9
      go_wp2_with fail
      with_reducible refine HRE.out.mono ?_
      rintro e w1 ⟨p1, F1, rfl, hm1, hF1, kk1⟩
      clear hm1 hF1
      rcases hk with hk | hk
      · have d1 : decide (key < 0) = true := by simp [hk]
        go_wp2
        go_ret3
        exact ⟨_, _, by rw [H1.out]; rfl, by rw [H1.out]; exact RD.nil, by rw [H1.out]; exact RD.nil, kk1.bel⟩
      · have d1 : decide (key < 0) = false := by simp; omega
        have d2 : decide (1000000 < key) = true := by simp [hk]
        go_wp2
        go_ret3
        exact ⟨_, _, by rw [H1.out]; rfl, by rw [H1.out]; exact RD.nil, by rw [H1.out]; exact RD.nil, kk1.bel⟩
    · have H1 : Hid (splitZ l key = ((unz (mapZ T) key).1.spotsBy Prod.fst 0, (unz (mapZ T) key).2.spotsBy Prod.fst 0, 0)) := hide (by rw [hsp, if_neg (by simp), if_neg hk])
      have d1 : decide (key < 0) = false := by simp; omega
      have d2 : decide (1000000 < key) = false := by simp; omega
      have HUZ := hide (fun p F W h => unzipped_any (mapZ T) p F key W h)
      obtain ⟨⟨Ta, Tb⟩, hU⟩ : ∃ P, P = unz (mapZ T) key := ⟨_, rfl⟩
      rw [← hU] at HUZ H1 hus
      simp only at hus H1
      clear hsp hk hU
      go_enter Tryd.func9, Tryd.ntmps9
      go_wp2_with fail
      with_reducible refine HRE.out.mono ?_
      rintro e w1 ⟨p1, F1, rfl, hm1, hF1, kk1⟩
      have HM1 := hide hm1.mapZ
      have HF1 := hide hF1
      clear hm1 hF1
      go_wp2_with fail
      with_reducible refine (HUZ.out _ _ _ HM1.out).mono ?_
      rintro e w2 ⟨pa, pb, Fa, Fb, rfl, ha, hb, _, _, _, hk2⟩
      have kk2 : Kp w w2 := hk2.kp kk1 HF1.out
      have HTA := hide (zipTold_any Ta pa Fa w2 ha (by omega))
      have HTB := hide (fun W (h : Kp w2 W) => zipTold_any Tb pb Fb W (hb.kp h) (by omega))
      clear ha hb hk2
      go_wp2_with fail
      with_reducible refine HTA.out.mono ?_
      rintro e w3 ⟨v3, rfl, hr3, hb3⟩
      have kk3 : Kp w2 w3 := Kp.of hb3
      have HR3 := hide hr3
      clear hr3 hb3
      go_wp2_with fail
      with_reducible refine (HTB.out _ kk3).mono ?_
      rintro e w4 ⟨v4, rfl, hr4, hb4⟩
      have kk4 : Kp w3 w4 := Kp.of hb4
      have HR4 := hide hr4
      clear hr4 hb4
      go_wp2
      go_ret3
      exact ⟨_, _, by rw [H1.out]; rfl, by rw [H1.out]; exact HR3.out.kp kk4, by rw [H1.out]; exact HR4.out, (kk2.trans (kk3.trans kk4)).bel⟩
  · have H1 : Hid (splitZ l key = ([], [], er)) := hide (by rw [hsp, if_pos he])
    have b0 : (er != 0) = true := by simpa using he
    clear hsp he hus
    go_enter Tryd.func9, Tryd.ntmps9
    go_wp2_with fail
    with_reducible refine HRE.out.mono ?_
    rintro e w1 ⟨p1, F1, rfl, hm1, hF1, kk1⟩
    clear hm1 hF1
    go_wp2
    go_ret3
    exact ⟨_, _, by rw [H1.out]; rfl, by rw [H1.out]; exact RD.nil, by rw [H1.out]; exact RD.nil, kk1.bel⟩

def badZ (a b : List IP) : Bool := match a.getLast?, b.head? with
  | some x, some y => decide (y.1 ≤ x.1)
  | _, _ => false
def mergeZ (a b : List IP) : List IP × Int :=
  if (parOf a).2 ≠ 0 then ([], (parOf a).2) else if (parOf b).2 ≠ 0 then ([], (parOf b).2) else
  if (readZ a).2 ≠ 0 ∨ (readZ b).2 ≠ 0 ∨ badZ a b = true then ([], 3) else if 200 < a.length + b.length then ([], 2) else
  ((zipM (mapZ (readZ a).1) (mapZ (readZ b).1)).spotsBy Prod.fst 0, 0)
def MgRel (a b : List IP) (w : World) (iv : Value) (wr : World) : Prop := (iv = .int .i64 0 ∨ (iv = .int .i64 1 ∧ (parOf a).2 = 0) ∨ (iv = .int .i64 2 ∧ (parOf a).2 = 0 ∧ (parOf b).2 = 0)) ∧ Kp w wr
theorem badZ_nil_left (b : List IP) : badZ [] b = false := rfl
theorem badZ_nil_right (a : List IP) : badZ a [] = false := by unfold badZ; cases a.getLast? <;> rfl
theorem badZ_at (a b : List IP) (ha : a.length - 1 < a.length) (hb : 0 < b.length) : badZ a b = decide (b[0].1 ≤ a[a.length - 1].1) := by
  unfold badZ
  rw [List.getLast?_eq_getElem?, List.getElem?_eq_getElem ha, List.head?_eq_getElem?, List.getElem?_eq_getElem hb]
theorem run_ix0 (x y : Value) (w : World) : (Instr.index 79 (.agg #[x, y]) (.int .i64 0)).run Tryd.prog w = .ok x w := by
  simp [Instr.index, run_underlying Tryd.underlying79, asIntOf, go_sem]
theorem run_ix1 (x y : Value) (w : World) : (Instr.index 79 (.agg #[x, y]) (.int .i64 1)).run Tryd.prog w = .ok y w := by
  simp [Instr.index, run_underlying Tryd.underlying79, asIntOf, go_sem]
set_option maxRecDepth 100000 in
set_option maxHeartbeats 8000000 in
theorem zipMerge_any (a b : List IP) (va vb : Value) (w : World) (hra : RD w ePair va a) (hrb : RD w ePair vb b) (hdb : DTb w) : Calls Tryd.prog 10 #[va, vb] w (Ret2 ePair (mergeZ a b) w) := by
  obtain ⟨A, c, rfl, hc, hm⟩ := hra.shape
  obtain ⟨B, d, rfl, hd, hn⟩ := hrb.shape
  have HA := hide hra
  have HB := hide hrb
  have HCA := hide (fun W h => shapeCheck_any a (.slice A a.length c) W h)
  have HCB := hide (fun W h => shapeCheck_any b (.slice B b.length d) W h)
  have HDB := hide hdb
  have hix0 := fun W => run_ix0 (.slice A a.length c) (.slice B b.length d) W
  have hix1 := fun W => run_ix1 (.slice A a.length c) (.slice B b.length d) W
  clear hra hrb hdb
  go_enter Tryd.func10, Tryd.ntmps10
  go_wp2
  go_loopw [16] (MgRel a b w) (fun i _ => 2 - (intOf i).toNat)
  case atStart => exact ⟨.inl rfl, Kp.refl _⟩
  case round =>
    obtain ⟨hi, hkp⟩ := hrel
    have HKP := hide hkp
    rcases hi with rfl | ⟨rfl, hpa⟩ | ⟨rfl, hpa, hpb⟩
    · obtain ⟨e0, he⟩ : ∃ e0, e0 = (parOf a).2 := ⟨_, rfl⟩
      rw [← he] at HCA
      by_cases h0 : e0 = 0
      · subst h0
        have HE := hide he
        clear he
        go_wp2_with fail
        with_reducible refine (HCA.out _ (HA.out.kp hkp)).mono ?_
        rintro e w1 ⟨rfl, hb1⟩
        have kk1 := hkp.trans (Kp.of hb1)
        clear hb1
        go_wp2
        go_roundw
        case rel => exact ⟨.inr (.inl ⟨rfl, HE.out.symm⟩), kk1⟩
        case measure => simp [intOf]
      · have H1 : Hid (mergeZ a b = ([], e0)) := hide (by rw [mergeZ, ← he, if_pos h0])
        have b0 : (e0 != 0) = true := by simpa using h0
        clear he h0
        go_wp2_with fail
        with_reducible refine (HCA.out _ (HA.out.kp hkp)).mono ?_
        rintro e w1 ⟨rfl, hb1⟩
        have kk1 := hkp.trans (Kp.of hb1)
        clear hb1
        go_wp2
        go_ret2
        exact ⟨_, by rw [H1.out]; rfl, by rw [H1.out]; exact RD.nil, kk1.bel⟩
    · obtain ⟨e0, he⟩ : ∃ e0, e0 = (parOf b).2 := ⟨_, rfl⟩
      rw [← he] at HCB
      have HPA := hide hpa
      by_cases h0 : e0 = 0
      · subst h0
        have HE := hide he
        clear he hpa
        go_wp2_with fail
        with_reducible refine (HCB.out _ (HB.out.kp hkp)).mono ?_
        rintro e w1 ⟨rfl, hb1⟩
        have kk1 := hkp.trans (Kp.of hb1)
        clear hb1
        go_wp2
        go_roundw
        case rel => exact ⟨.inr (.inr ⟨rfl, HPA.out, HE.out.symm⟩), kk1⟩
        case measure => simp [intOf]
      · have H1 : Hid (mergeZ a b = ([], e0)) := hide (by rw [mergeZ, if_neg (by simp [hpa]), ← he, if_pos h0])
        have b0 : (e0 != 0) = true := by simpa using h0
        clear he h0 hpa
        go_wp2_with fail
        with_reducible refine (HCB.out _ (HB.out.kp hkp)).mono ?_
        rintro e w1 ⟨rfl, hb1⟩
        have kk1 := hkp.trans (Kp.of hb1)
        clear hb1
        go_wp2
        go_ret2
        exact ⟨_, by rw [H1.out]; rfl, by rw [H1.out]; exact RD.nil, kk1.bel⟩
    · have hla := mapRight_len a (parOf_len a hpa).2.1
      have hlb := mapRight_len b (parOf_len b hpb).2.1
      have hmg : mergeZ a b = if (readZ a).2 ≠ 0 ∨ (readZ b).2 ≠ 0 ∨ badZ a b = true then ([], 3) else if 200 < a.length + b.length then ([], 2) else ((zipM (mapZ (readZ a).1) (mapZ (readZ b).1)).spotsBy Prod.fst 0, 0) := by
        rw [mergeZ, if_neg (by simp [hpa]), if_neg (by simp [hpb])]
      have HRA := hide (fun W (h : Kp w W) => zipRead_any a (.slice A a.length c) W (HA.out.kp h) (HDB.out.kp h))
      have HRB := hide (fun W (h : Kp w W) => zipRead_any b (.slice B b.length d) W (HB.out.kp h) (HDB.out.kp h))
      unfold ZRPost at HRA HRB
      obtain ⟨hza, _⟩ := readZ_size a
      obtain ⟨hzb, _⟩ := readZ_size b
      obtain ⟨⟨TA, ra⟩, hPA⟩ : ∃ P, P = readZ a := ⟨_, rfl⟩
      obtain ⟨⟨TB', rb⟩, hPB⟩ : ∃ P, P = readZ b := ⟨_, rfl⟩
      rw [← hPA] at HRA hza hmg
      rw [← hPB] at HRB hzb hmg
      simp only at HRA HRB hza hzb hmg
      have HMG := hide hmg
      clear hmg hPA hPB hpa hpb
      go_wp2_with fail
      with_reducible refine (HRA.out _ hkp).mono ?_
      rintro e w1 ⟨p1, F1, rfl, hm1, hF1, kk1⟩
      have K1 : Kp w w1 := hkp.trans kk1
      have HM1 := hide hm1.mapZ
      have HF1 := hide hF1
      clear hm1 hF1 kk1
      go_wp2_with fail
      with_reducible refine (HRB.out _ K1).mono ?_
      rintro e w2 ⟨p2, F2, rfl, hm2, hF2, kk2⟩
      have K2 : Kp w w2 := K1.trans kk2
      have HM2 := hide hm2.mapZ
      have HF2 := hide hF2
      have HK2 := hide kk2
      clear hm2 hF2 kk2
      have HLT := hide HM1.out.lt
      by_cases h1 : ra = 0
      · by_cases h2 : rb = 0
        · subst h1 h2
          have b0 : ((0 : Int) != 0) = false := by decide
          have HD12 : Hid (∀ x ∈ F1, x ∉ F2) := hide (fun x h h' => by have := HLT.out x h; have := HF2.out x h'; omega)
          have HZP := hide (fun W (h : Kp w2 W) => zipped_any _ (mapZ TA) (mapZ TB') p1 p2 F1 F2 W (Nat.le_refl _) ((HM1.out.kp HK2.out).kp h) (HM2.out.kp h) HD12.out)
          have hzs := zipM_size _ (mapZ TA) (mapZ TB') (Nat.le_refl _)
          rw [mapZ_size, mapZ_size] at hzs
          have HFK : Hid (∀ W W', Kp w2 W → Kf (fun i => i ∈ F1 ∨ i ∈ F2) W W' → Kp w W') := hide (fun W W' h1 h2 => h2.kp (K2.trans h1) (fun i hi => by
            rcases hi with hi | hi
            · have := HF1.out i hi; have := hkp.size; omega
            · have := HF2.out i hi; have := K1.size; omega))
          have KW0 := Kp.refl w2
          rcases Nat.eq_zero_or_pos a.length with ha | ha
          · obtain rfl : a = [] := List.eq_nil_of_length_eq_zero ha
            have HBZ : Hid (badZ [] b = false) := hide (badZ_nil_left b)
            have d1 : decide ((0 : Int) < (([] : List IP).length : Int)) = false := by simp
            have hwl : IntKind.i64.wrap ((([] : List IP).length : Int) + (b.length : Int)) = (([] : List IP).length : Int) + (b.length : Int) := IntWalk.i64_in _ (by omega)
            have hbig : ¬ 200 < ([] : List IP).length + b.length := by simp <;> omega
            have H1 : Hid (mergeZ ([] : List IP) b = ((zipM (mapZ TA) (mapZ TB')).spotsBy Prod.fst 0, 0)) := hide (by rw [HMG.out, if_neg (by simp [HBZ.out]), if_neg hbig])
            have d9 : decide ((200 : Int) < (([] : List IP).length : Int) + (b.length : Int)) = false := by simp only [decide_eq_false_iff_not]; omega
            clear hbig
            go_wp2_with fail
            go_quiet (fail)
            go_wp2_with fail
            with_reducible refine (HZP.out _ (by (focus ((repeat (first | (with_reducible assumption) | (with_reducible exact Kp.refl _) | (with_reducible apply Kp.drew) | (with_reducible apply Kp.drewN) | ((with_reducible apply Kp.setR); (focus (first | (with_reducible assumption) | (simp; done) | (simp; omega)))) | (with_reducible apply Kp.alloc) | ((with_reducible apply Kp.call); (with_reducible assumption)) | ((with_reducible apply Kp.app); (with_reducible assumption)))); done)))).mono ?_
            rintro e w5 ⟨p5, F5, rfl, hm5, hF5, hk5⟩
            have K5 := HFK.out _ w5 (by (focus ((repeat (first | (with_reducible assumption) | (with_reducible exact Kp.refl _) | (with_reducible apply Kp.drew) | (with_reducible apply Kp.drewN) | ((with_reducible apply Kp.setR); (focus (first | (with_reducible assumption) | (simp; done) | (simp; omega)))) | (with_reducible apply Kp.alloc) | ((with_reducible apply Kp.call); (with_reducible assumption)) | ((with_reducible apply Kp.app); (with_reducible assumption)))); done))) hk5
            have HTO := hide (zipTold_any _ p5 F5 w5 hm5 (by omega))
            clear hm5 hF5 hk5
            go_wp2_with fail
            with_reducible refine HTO.out.mono ?_
            rintro e w6 ⟨v6, rfl, hr6, hb6⟩
            have kk6 : Kp w5 w6 := Kp.of hb6
            have HR6 := hide hr6
            clear hr6 hb6
            go_wp2
            go_ret2
            exact ⟨_, by rw [H1.out]; rfl, by rw [H1.out]; exact HR6.out, (K5.trans kk6).bel⟩
          · have hb3 := ha
            rcases Nat.eq_zero_or_pos b.length with hb | hb
            · obtain rfl : b = [] := List.eq_nil_of_length_eq_zero hb
              have HBZ : Hid (badZ a [] = false) := hide (badZ_nil_right a)
              have d1 : decide ((0 : Int) < (a.length : Int)) = true := by simp <;> omega
              have d2 : decide ((0 : Int) < (([] : List IP).length : Int)) = false := by simp
              have hwl : IntKind.i64.wrap ((a.length : Int) + (([] : List IP).length : Int)) = (a.length : Int) + (([] : List IP).length : Int) := IntWalk.i64_in _ (by omega)
              have hbig : ¬ 200 < a.length + ([] : List IP).length := by simp <;> omega
              have H1 : Hid (mergeZ a ([] : List IP) = ((zipM (mapZ TA) (mapZ TB')).spotsBy Prod.fst 0, 0)) := hide (by rw [HMG.out, if_neg (by simp [HBZ.out]), if_neg hbig])
              have d9 : decide ((200 : Int) < (a.length : Int) + (([] : List IP).length : Int)) = false := by simp only [decide_eq_false_iff_not]; omega
              clear hbig
              go_wp2_with fail
              go_quiet (fail)
              go_wp2_with fail
              with_reducible refine (HZP.out _ (by (focus ((repeat (first | (with_reducible assumption) | (with_reducible exact Kp.refl _) | (with_reducible apply Kp.drew) | (with_reducible apply Kp.drewN) | ((with_reducible apply Kp.setR); (focus (first | (with_reducible assumption) | (simp; done) | (simp; omega)))) | (with_reducible apply Kp.alloc) | ((with_reducible apply Kp.call); (with_reducible assumption)) | ((with_reducible apply Kp.app); (with_reducible assumption)))); done)))).mono ?_
              rintro e w5 ⟨p5, F5, rfl, hm5, hF5, hk5⟩
              have K5 := HFK.out _ w5 (by (focus ((repeat (first | (with_reducible assumption) | (with_reducible exact Kp.refl _) | (with_reducible apply Kp.drew) | (with_reducible apply Kp.drewN) | ((with_reducible apply Kp.setR); (focus (first | (with_reducible assumption) | (simp; done) | (simp; omega)))) | (with_reducible apply Kp.alloc) | ((with_reducible apply Kp.call); (with_reducible assumption)) | ((with_reducible apply Kp.app); (with_reducible assumption)))); done))) hk5
              have HTO := hide (zipTold_any _ p5 F5 w5 hm5 (by omega))
              clear hm5 hF5 hk5
              go_wp2_with fail
              with_reducible refine HTO.out.mono ?_
              rintro e w6 ⟨v6, rfl, hr6, hb6⟩
              have kk6 : Kp w5 w6 := Kp.of hb6
              have HR6 := hide hr6
              clear hr6 hb6
              go_wp2
              go_ret2
              exact ⟨_, by rw [H1.out]; rfl, by rw [H1.out]; exact HR6.out, (K5.trans kk6).bel⟩
            · have hal : a.length - 1 < a.length := by omega
              have hbz := badZ_at a b hal hb
              obtain ⟨ba, oa, rfl, _, xa, _⟩ := (HA.out.kp K2).pair hal
              obtain ⟨bb, ob, rfl, _, xb, _⟩ := (HB.out.kp K2).pair hb
              rw [Nat.zero_mul, Nat.add_zero] at xb
              obtain ⟨ya, hya⟩ : ∃ ya, ya = a[a.length - 1].1 := ⟨_, rfl⟩
              obtain ⟨yb, hyb⟩ : ∃ yb, yb = b[0].1 := ⟨_, rfl⟩
              rw [← hya] at xa hbz
              rw [← hyb] at xb hbz
              obtain ⟨L1, hL1⟩ : ∃ L1 : Nat, L1 = a.length - 1 := ⟨_, rfl⟩
              rw [← hL1] at xa
              have hw1 : IntKind.i64.wrap ((a.length : Int) - 1) = (L1 : Int) := by rw [IntWalk.i64_in _ (by omega)]; omega
              have hL2 : (L1 : Int) < (a.length : Int) := by omega
              have d1 : decide ((0 : Int) < (a.length : Int)) = true := by simp <;> omega
              have d2 : decide ((0 : Int) < (b.length : Int)) = true := by simp <;> omega
              have hb0 : (0 : Int) < (b.length : Int) := by omega
              by_cases hle : yb ≤ ya
              · have H1 : Hid (mergeZ a b = ([], 3)) := hide (by rw [HMG.out, if_pos (.inr (.inr (by rw [hbz]; simp [hle])))])
                have d3 : decide (yb ≤ ya) = true := by simp [hle]
                clear hbz hya hyb hL1 hle
                go_wp2_with fail
                go_quiet (fail)
                go_wp2
                go_ret2
                exact ⟨_, by rw [H1.out]; rfl, by rw [H1.out]; exact RD.nil, Kp.bel (by (focus ((repeat (first | (with_reducible assumption) | (with_reducible exact Kp.refl _) | (with_reducible apply Kp.drew) | (with_reducible apply Kp.drewN) | ((with_reducible apply Kp.setR); (focus (first | (with_reducible assumption) | (simp; done) | (simp; omega)))) | (with_reducible apply Kp.alloc) | ((with_reducible apply Kp.call); (with_reducible assumption)) | ((with_reducible apply Kp.app); (with_reducible assumption)))); done)))⟩
              · have HBZ : Hid (badZ a b = false) := hide (by rw [hbz]; simp; omega)
                have d3 : decide (yb ≤ ya) = false := by simp; omega
                clear hbz hya hyb hL1 hle
                have hwl : IntKind.i64.wrap ((a.length : Int) + (b.length : Int)) = (a.length : Int) + (b.length : Int) := IntWalk.i64_in _ (by omega)
                by_cases hbig : 200 < a.length + b.length
                · have H1 : Hid (mergeZ a b = ([], 2)) := hide (by rw [HMG.out, if_neg (by simp [HBZ.out]), if_pos hbig])
                  have d9 : decide ((200 : Int) < (a.length : Int) + (b.length : Int)) = true := by simp only [decide_eq_true_eq]; omega
                  clear hbig
                  go_wp2_with fail
                  go_quiet (fail)
                  go_wp2
                  go_ret2
                  exact ⟨_, by rw [H1.out]; rfl, by rw [H1.out]; exact RD.nil, Kp.bel (by (focus ((repeat (first | (with_reducible assumption) | (with_reducible exact Kp.refl _) | (with_reducible apply Kp.drew) | (with_reducible apply Kp.drewN) | ((with_reducible apply Kp.setR); (focus (first | (with_reducible assumption) | (simp; done) | (simp; omega)))) | (with_reducible apply Kp.alloc) | ((with_reducible apply Kp.call); (with_reducible assumption)) | ((with_reducible apply Kp.app); (with_reducible assumption)))); done)))⟩
                · have H1 : Hid (mergeZ a b = ((zipM (mapZ TA) (mapZ TB')).spotsBy Prod.fst 0, 0)) := hide (by rw [HMG.out, if_neg (by simp [HBZ.out]), if_neg hbig])
                  have d9 : decide ((200 : Int) < (a.length : Int) + (b.length : Int)) = false := by simp only [decide_eq_false_iff_not]; omega
                  clear hbig
                  go_wp2_with fail
                  go_quiet (fail)
                  go_wp2_with fail
                  with_reducible refine (HZP.out _ (by (focus ((repeat (first | (with_reducible assumption) | (with_reducible exact Kp.refl _) | (with_reducible apply Kp.drew) | (with_reducible apply Kp.drewN) | ((with_reducible apply Kp.setR); (focus (first | (with_reducible assumption) | (simp; done) | (simp; omega)))) | (with_reducible apply Kp.alloc) | ((with_reducible apply Kp.call); (with_reducible assumption)) | ((with_reducible apply Kp.app); (with_reducible assumption)))); done)))).mono ?_
                  rintro e w5 ⟨p5, F5, rfl, hm5, hF5, hk5⟩
                  have K5 := HFK.out _ w5 (by (focus ((repeat (first | (with_reducible assumption) | (with_reducible exact Kp.refl _) | (with_reducible apply Kp.drew) | (with_reducible apply Kp.drewN) | ((with_reducible apply Kp.setR); (focus (first | (with_reducible assumption) | (simp; done) | (simp; omega)))) | (with_reducible apply Kp.alloc) | ((with_reducible apply Kp.call); (with_reducible assumption)) | ((with_reducible apply Kp.app); (with_reducible assumption)))); done))) hk5
                  have HTO := hide (zipTold_any _ p5 F5 w5 hm5 (by omega))
                  clear hm5 hF5 hk5
                  go_wp2_with fail
                  with_reducible refine HTO.out.mono ?_
                  rintro e w6 ⟨v6, rfl, hr6, hb6⟩
                  have kk6 : Kp w5 w6 := Kp.of hb6
                  have HR6 := hide hr6
                  clear hr6 hb6
                  go_wp2
                  go_ret2
                  exact ⟨_, by rw [H1.out]; rfl, by rw [H1.out]; exact HR6.out, (K5.trans kk6).bel⟩
        · have H1 : Hid (mergeZ a b = ([], 3)) := hide (by rw [HMG.out, if_pos (.inr (.inl h2))])
          have b0 : (ra != 0) = false := by simpa using h1
          have b1 : (rb != 0) = true := by simpa using h2
          clear h1 h2
          go_wp2_with fail
          go_quiet (fail)
          go_wp2
          go_ret2
          exact ⟨_, by rw [H1.out]; rfl, by rw [H1.out]; exact RD.nil, Kp.bel (by (focus ((repeat (first | (with_reducible assumption) | (with_reducible exact Kp.refl _) | (with_reducible apply Kp.drew) | (with_reducible apply Kp.drewN) | ((with_reducible apply Kp.setR); (focus (first | (with_reducible assumption) | (simp; done) | (simp; omega)))) | (with_reducible apply Kp.alloc) | ((with_reducible apply Kp.call); (with_reducible assumption)) | ((with_reducible apply Kp.app); (with_reducible assumption)))); done)))⟩
      · have H1 : Hid (mergeZ a b = ([], 3)) := hide (by rw [HMG.out, if_pos (.inl h1)])
        have b0 : (ra != 0) = true := by simpa using h1
        clear h1
        go_wp2_with fail
        go_quiet (fail)
        go_wp2
        go_ret2
        exact ⟨_, by rw [H1.out]; rfl, by rw [H1.out]; exact RD.nil, Kp.bel (by (focus ((repeat (first | (with_reducible assumption) | (with_reducible exact Kp.refl _) | (with_reducible apply Kp.drew) | (with_reducible apply Kp.drewN) | ((with_reducible apply Kp.setR); (focus (first | (with_reducible assumption) | (simp; done) | (simp; omega)))) | (with_reducible apply Kp.alloc) | ((with_reducible apply Kp.call); (with_reducible assumption)) | ((with_reducible apply Kp.app); (with_reducible assumption)))); done)))⟩
end Go.Proofs.YtfgbbmjnjppfnaaDoor
namespace Go.Proofs.YtfgbbmjnjppfnaaDoor
open Go.ChangeShapes Go.WideShapes Go.ChangeAt Go.RowKit
set_option linter.unusedVariables false
set_option linter.unusedSimpArgs false

theorem nd_mapZ : ∀ t : MT Int, nd (mapZ t) = (keysM id t).map zk
  | .nil => rfl
  | .node a l r => by simp [mapZ, nd, keysM, nd_mapZ l, nd_mapZ r]
/-- The parts that a list of parents names, and the order: one way. -/
theorem hp_of (ks : List Int) : ∀ (t : PT) (lo : Nat) (u : Int), t.At lo → (u < lo ∨ (lo : Int) + t.size ≤ u) →
    (∀ j v, j < t.size → (t.pars u)[j]? = some v → (lo : Int) ≤ v → v < lo + t.size → ov (zk (ks.getD v.toNat 0)) (zk (ks.getD (lo + j) 0)) = true) → Hp (mapZ (mtP ks t)) ∧ (∀ q, t.root = some q → ∀ x ∈ nd (mapZ (mtP ks t)), x = zk (ks.getD q 0) ∨ ov (zk (ks.getD q 0)) x = true)
  | .nil, lo, u, _, _, _ => ⟨trivial, fun q h => by cases h⟩
  | .node p l r, lo, u, ⟨hp, hl, hr⟩, hu, hov => by
    simp only [PT.size] at hu hov
    push_cast at hu hov
    obtain ⟨i1, i2⟩ := hp_of ks l lo p hl (.inr (by omega)) (fun j v hj hv h1 h2 => hov j v (by omega) (by rw [PT.pars_node, if_pos hj]; exact hv) h1 (by omega))
    obtain ⟨j1, j2⟩ := hp_of ks r (p + 1) p hr (.inl (by omega)) (fun j v hj hv h1 h2 => by
      have := hov (l.size + 1 + j) v (by omega) (by rw [PT.pars_node, if_neg (by omega), if_neg (by omega), show l.size + 1 + j - (l.size + 1) = j by omega]; exact hv) (by omega) (by omega)
      rwa [show lo + (l.size + 1 + j) = p + 1 + j by omega] at this)
    have hL : ∀ x ∈ nd (mapZ (mtP ks l)), ov (zk (ks.getD p 0)) x = true := fun x hx => by
      cases hq : l.root with
      | none => cases l with
        | nil => simp [mtP, mapZ, nd] at hx
        | node q a b => simp [PT.root] at hq
      | some q =>
        have hqi := PT.root_in l lo q hl hq
        have hrt : ov (zk (ks.getD p 0)) (zk (ks.getD q 0)) = true := by
          obtain ⟨v, hv1, hv2⟩ := PT.pars_in l lo p hl (q - lo) (by omega)
          have hvp : v = p := by
            rcases hv2 with h | h
            · exact h.2
            · exact absurd (by rw [hq]; congr 1; omega) h.1
          have := hov (q - lo) v (by omega) (by rw [PT.pars_node, if_pos (by omega)]; exact hv1) (by omega) (by omega)
          rwa [hvp, Int.toNat_natCast, show lo + (q - lo) = q by omega] at this
        rcases i2 q hq x hx with h | h
        · rw [h]; exact hrt
        · exact ov_trans hrt h
    have hR : ∀ x ∈ nd (mapZ (mtP ks r)), ov (zk (ks.getD p 0)) x = true := fun x hx => by
      cases hq : r.root with
      | none => cases r with
        | nil => simp [mtP, mapZ, nd] at hx
        | node q a b => simp [PT.root] at hq
      | some q =>
        have hqi := PT.root_in r (p + 1) q hr hq
        have hrt : ov (zk (ks.getD p 0)) (zk (ks.getD q 0)) = true := by
          obtain ⟨v, hv1, hv2⟩ := PT.pars_in r (p + 1) p hr (q - (p + 1)) (by omega)
          have hvp : v = p := by
            rcases hv2 with h | h
            · exact h.2
            · exact absurd (by rw [hq]; congr 1; omega) h.1
          have := hov (q - lo) v (by omega) (by rw [PT.pars_node, if_neg (by omega), if_neg (by omega), show q - lo - (l.size + 1) = q - (p + 1) by omega]; exact hv1) (by omega) (by omega)
          rwa [hvp, Int.toNat_natCast, show lo + (q - lo) = q by omega] at this
        rcases j2 q hq x hx with h | h
        · rw [h]; exact hrt
        · exact ov_trans hrt h
    refine ⟨⟨hL, hR, i1, j1⟩, fun q hq x hx => ?_⟩
    simp only [PT.root, Option.some.injEq] at hq
    subst hq
    simp only [mtP, mapZ, nd, List.mem_append, List.mem_cons] at hx
    rcases hx with h | h | h
    · exact .inr (hL x h)
    · exact .inl h
    · exact .inr (hR x h)
/-- The other way. -/
theorem of_hp (ks : List Int) : ∀ (t : PT) (lo : Nat) (u : Int), t.At lo → (u < lo ∨ (lo : Int) + t.size ≤ u) → Hp (mapZ (mtP ks t)) →
    (∀ j v, j < t.size → (t.pars u)[j]? = some v → (lo : Int) ≤ v → v < lo + t.size → ov (zk (ks.getD v.toNat 0)) (zk (ks.getD (lo + j) 0)) = true) ∧ ∀ j, j < t.size → zk (ks.getD (lo + j) 0) ∈ nd (mapZ (mtP ks t))
  | .nil, lo, u, _, _, _ => ⟨fun j v h => by simp [PT.size] at h, fun j h => by simp [PT.size] at h⟩
  | .node p l r, lo, u, ⟨hp, hl, hr⟩, hu, ⟨p1, p2, p3, p4⟩ => by
    simp only [PT.size] at hu ⊢
    push_cast at hu ⊢
    obtain ⟨i1, i2⟩ := of_hp ks l lo p hl (.inr (by omega)) p3
    obtain ⟨j1, j2⟩ := of_hp ks r (p + 1) p hr (.inl (by omega)) p4
    refine ⟨fun j v hj hv h1 h2 => ?_, fun j hj => ?_⟩
    · rw [PT.pars_node] at hv
      rcases Nat.lt_trichotomy j l.size with h | h | h
      · rw [if_pos h] at hv
        by_cases hvp : v = p
        · rw [hvp, Int.toNat_natCast]
          exact p1 _ (i2 j h)
        · obtain ⟨v', e1, e2⟩ := PT.pars_in l lo p hl j h
          rw [hv] at e1
          injection e1 with e1
          subst e1
          rcases e2 with e2 | e2
          · exact absurd e2.2 hvp
          · have := e2.2; push_cast at this; exact i1 j v h hv (by omega) (by omega)
      · rw [if_neg (by omega), if_pos h] at hv
        injection hv with hv
        omega
      · rw [if_neg (by omega), if_neg (by omega)] at hv
        by_cases hvp : v = p
        · rw [hvp, Int.toNat_natCast]
          have := p2 _ (j2 (j - (l.size + 1)) (by omega))
          rwa [show p + 1 + (j - (l.size + 1)) = lo + j by omega] at this
        · obtain ⟨v', e1, e2⟩ := PT.pars_in r (p + 1) p hr (j - (l.size + 1)) (by omega)
          rw [hv] at e1
          injection e1 with e1
          subst e1
          rcases e2 with e2 | e2
          · exact absurd e2.2 hvp
          · have e3 := e2.2
            push_cast at e3
            have := j1 (j - (l.size + 1)) v (by omega) hv (by push_cast; omega) (by push_cast; omega)
            rwa [show p + 1 + (j - (l.size + 1)) = lo + j by omega] at this
    · simp only [mtP, mapZ, nd, List.mem_append, List.mem_cons]
      rcases Nat.lt_trichotomy j l.size with h | h | h
      · exact .inl (i2 j h)
      · exact .inr (.inl (by rw [show lo + j = p by omega]))
      · have := j2 (j - (l.size + 1)) (by omega)
        rw [show p + 1 + (j - (l.size + 1)) = lo + j by omega] at this
        exact .inr (.inr this)
theorem keysM_ndB : ∀ t : MT IP, keysM Prod.fst t = (nd t).map Prod.fst
  | .nil => rfl
  | .node a l r => by simp [keysM, nd, keysM_ndB l, keysM_ndB r]
def kT : MT IP → MT Int
  | .nil => .nil
  | .node a l r => .node a.1 (kT l) (kT r)
theorem mapZ_kT : ∀ t : MT IP, (∀ x ∈ nd t, x = zk x.1) → mapZ (kT t) = t
  | .nil, _ => rfl
  | .node a l r, h => by
    rw [kT, mapZ, mapZ_kT l (fun x hx => h x (by simp [nd, hx])), mapZ_kT r (fun x hx => h x (by simp [nd, hx])), ← h a (by simp [nd])]
theorem mtP_ptM (ks : List Int) : ∀ (t : MT IP) (off : Nat), (∀ j, j < t.size → ks.getD (off + j) 0 = ((nd t).map Prod.fst).getD j 0) → mtP ks (ptM t off) = kT t
  | .nil, _, _ => rfl
  | .node a l r, off, h => by
    have hln : ∀ t : MT IP, (nd t).length = t.size := by
      intro t
      induction t with
      | nil => rfl
      | node a l r ihl ihr => simp only [nd, List.length_append, List.length_cons, MT.size, ihl, ihr]; omega
    have g : ∀ j, ((nd (.node a l r)).map Prod.fst).getD j 0 = if j < l.size then ((nd l).map Prod.fst).getD j 0 else if j = l.size then a.1 else ((nd r).map Prod.fst).getD (j - (l.size + 1)) 0 := fun j => by
      simp only [nd, List.map_append, List.map_cons, List.getD_eq_getElem?_getD]
      rcases Nat.lt_trichotomy j l.size with h1 | h1 | h1
      · rw [if_pos h1, List.getElem?_append_left (by simp [hln]; exact h1)]
      · rw [if_neg (by omega), if_pos h1, List.getElem?_append_right (by simp [hln]; omega)]
        simp [hln, h1]
      · rw [if_neg (by omega), if_neg (by omega), List.getElem?_append_right (by simp [hln]; omega)]
        simp only [List.length_map, hln]
        rw [show j - l.size = (j - (l.size + 1)) + 1 by omega, List.getElem?_cons_succ]
    simp only [MT.size] at h
    rw [ptM, mtP, kT]
    congr 1
    · rw [h l.size (by omega), g, if_neg (by omega), if_pos rfl]
    · exact mtP_ptM ks l off (fun j hj => by rw [h j (by omega), g, if_pos hj])
    · exact mtP_ptM ks r (off + l.size + 1) (fun j hj => by
        have := h (l.size + 1 + j) (by omega)
        rw [g, if_neg (by omega), if_neg (by omega), show l.size + 1 + j - (l.size + 1) = j by omega] at this
        rw [← this]; congr 1; omega)
theorem okB_iff (l : List IP) (up : List Int) (n : Nat) : okB l up n = true ↔ ∀ j, j < n → 0 ≤ gI up j → ov (zk (gk l (gI up j).toNat)) (zk (gk l j)) = true := by
  rw [okB, List.all_eq_true]
  constructor
  · intro h j hj h0
    have := h j (List.mem_range.2 hj)
    simp only [Bool.or_eq_true, decide_eq_true_eq] at this
    rcases this with h1 | h1
    · omega
    · exact h1
  · intro h j hj
    simp only [Bool.or_eq_true, decide_eq_true_eq]
    by_cases h0 : gI up j < 0
    · exact .inl h0
    · exact .inr (h j (List.mem_range.1 hj) (by omega))
/-- A zipped tree's spots are read as that tree. -/
theorem readZ_spots {M : MT IP} {ks : List Int} (h : ZI M ks) (hn : M.size ≤ 200) (hk : ∀ k ∈ ks, 0 ≤ k ∧ k ≤ 1000000) : (parOf (M.spotsBy Prod.fst 0)).2 = 0 ∧ ∃ B, readZ (M.spotsBy Prod.fst 0) = (B, 0) ∧ mapZ B = M := by
  have hkk : keysM Prod.fst M = ks := by
    have : ∀ t : MT IP, keysM Prod.fst t = (nd t).map Prod.fst := by
      intro t
      induction t with
      | nil => rfl
      | node a l r ihl ihr => simp [keysM, nd, ihl, ihr]
    rw [this, h.nd_, List.map_map]; simp [Function.comp_def, zk]
  have hp := spotsBy_right Prod.fst M hn (by rw [hkk]; exact h.up) (by rw [hkk]; exact hk)
  have hs := spotsBy_keys Prod.fst M 0
  rw [hkk] at hs
  have hsl := MT.spotsBy_len Prod.fst M 0
  obtain ⟨s, hse⟩ : ∃ s, s = M.spotsBy Prod.fst 0 := ⟨_, rfl⟩
  rw [← hse] at hp hs hsl ⊢
  have h0 : (parOf s).2 = 0 := by rw [hp]
  have hpt : ptR s 0 s.length 0 = some (ptM M 0) := ptR_of s (ptM M 0) 0 s.length 0 (ptM_at M 0) (by rw [ptM_size, hsl]; omega) (fun j hj => by
    rw [ptM_deps Prod.fst, Nat.zero_add, ← hse]
    rw [ptM_size] at hj
    rw [gv_eq s j (by omega)]
    simp [List.getElem?_eq_getElem (show j < s.length by omega)])
  have hmt : mtP (s.map Prod.fst) (ptM M 0) = kT M := mtP_ptM _ M 0 (fun j hj => by
    rw [Nat.zero_add, hs, h.nd_, List.map_map]; simp [Function.comp_def, zk])
  have hB : mapZ (kT M) = M := mapZ_kT M (fun x hx => by
    rw [h.nd_] at hx
    obtain ⟨y, _, rfl⟩ := List.mem_map.1 hx
    rfl)
  have hok : okB s ((ptM M 0).pars (-1)) s.length = true := by
    rw [okB_iff]
    intro j hj h9
    have h8 := (of_hp (s.map Prod.fst) (ptM M 0) 0 (-1) (ptM_at M 0) (.inl (by omega)) (by rw [hmt, hB]; exact h.hp)).1
    have hjs : j < (ptM M 0).size := by rw [ptM_size]; omega
    obtain ⟨v, e1, e2⟩ := PT.pars_in (ptM M 0) 0 (-1) (ptM_at M 0) j hjs
    have hg : gI ((ptM M 0).pars (-1)) j = v := by rw [gI, List.getD_eq_getElem?_getD, e1]; rfl
    rw [hg] at h9 ⊢
    have e3 : v < (0 : Int) + (ptM M 0).size := by
      rcases e2 with e2 | e2
      · omega
      · have := e2.2.2; push_cast at this; omega
    have := h8 j v hjs e1 (by push_cast; omega) (by push_cast; omega)
    rw [getD_fstZ, getD_fstZ, Nat.zero_add] at this
    exact this
  refine ⟨h0, kT M, ?_, hB⟩
  rw [readZ, if_neg (by simp [h0]), hp]
  simp only
  rw [if_pos hok, hpt]
  simp only
  rw [hmt]
theorem mtP_keys (ks : List Int) : ∀ (t : PT) (lo : Nat), t.At lo → lo + t.size ≤ ks.length → keysM id (mtP ks t) = (ks.drop lo).take t.size
  | .nil, lo, _, _ => by simp [mtP, keysM, PT.size]
  | .node p l r, lo, ⟨hp, hl, hr⟩, h => by
    simp only [PT.size] at h
    rw [mtP, keysM, mtP_keys ks l lo hl (by omega), mtP_keys ks r (p + 1) hr (by omega)]
    simp only [PT.size, id_eq]
    apply List.ext_getElem?
    intro j
    rw [List.append_assoc]
    rcases Nat.lt_trichotomy j l.size with hj | hj | hj
    · rw [List.getElem?_append_left (by simp; omega), List.getElem?_take, if_pos hj, List.getElem?_take, if_pos (by omega)]
    · rw [List.getElem?_append_right (by simp; omega)]
      rw [show j - (List.take l.size (List.drop lo ks)).length = 0 from by simp; omega, List.getElem?_take, if_pos (by omega), List.getElem?_drop, show lo + j = p from by omega]
      simp [List.getD_eq_getElem?_getD, List.getElem?_eq_getElem (show p < ks.length by omega)]
    · rw [List.getElem?_append_right (by simp; omega)]
      rw [show j - (List.take l.size (List.drop lo ks)).length = (j - l.size - 1) + 1 from by simp; omega]
      simp only [List.singleton_append, List.getElem?_cons_succ]
      by_cases hj2 : j < l.size + 1 + r.size
      · rw [List.getElem?_take, if_pos (by omega), List.getElem?_take, if_pos hj2, List.getElem?_drop, List.getElem?_drop]
        congr 1; omega
      · rw [List.getElem?_take, if_neg (by omega), List.getElem?_take, if_neg hj2]
theorem mtP_deps (ks : List Int) : ∀ (t : PT) (d : Int), ((mtP ks t).spotsBy id d).map Prod.snd = t.deps d
  | .nil, _ => rfl
  | .node p l r, d => by simp [mtP, MT.spotsBy, PT.deps, mtP_deps ks l, mtP_deps ks r]
theorem pair_ext : ∀ {a b : List IP}, a.map Prod.fst = b.map Prod.fst → a.map Prod.snd = b.map Prod.snd → a = b
  | [], [], _, _ => rfl
  | [], _ :: _, h, _ => by simp at h
  | _ :: _, [], h, _ => by simp at h
  | (a1, a2) :: a, (b1, b2) :: b, h, h' => by
    simp only [List.map_cons, List.cons.injEq] at h h'
    obtain ⟨rfl, h⟩ := h
    obtain ⟨rfl, h'⟩ := h'
    rw [pair_ext h h']
theorem filt_app {k : Int} : ∀ {ks : List Int}, Up ks → ks.filter (fun x => decide (x < k)) ++ ks.filter (fun x => !decide (x < k)) = ks
  | [], _ => rfl
  | y :: t, h => by
    rw [Up, List.pairwise_cons] at h
    by_cases h1 : y < k
    · rw [List.filter_cons, if_pos (by simpa using h1), List.filter_cons, if_neg (by simpa using h1), List.cons_append, filt_app h.2]
    · rw [List.filter_cons, if_neg (by simpa using h1), List.filter_cons, if_pos (by simpa using h1)]
      rw [filter_no (fun x hx => by have := h.1 x hx; simp; omega), filter_all (fun x hx => by have := h.1 x hx; simp; omega)]
      rfl
/-- What is read is the tree of its keys, and its spots are the list. -/
theorem readZ_facts {l : List IP} (h : (readZ l).2 = 0) : ZI (mapZ (readZ l).1) (l.map Prod.fst) ∧ (mapZ (readZ l).1).spotsBy Prod.fst 0 = l ∧ l.length ≤ 200 ∧ (mapZ (readZ l).1).size = l.length ∧ (∀ k ∈ l.map Prod.fst, 0 ≤ k ∧ k ≤ 1000000) := by
  obtain ⟨_, hz⟩ := readZ_size l
  obtain ⟨h0, hsz, hlen⟩ := hz h
  obtain ⟨_, hmr, t, hpt, hpo⟩ := parOf_len l h0
  obtain ⟨hta, hts, hdd⟩ := ptR_to l 0 l.length 0 t (by omega) hpt
  have hup : (parOf l).1 = t.pars (-1) := by rw [hpo]
  have hr : readZ l = (mtP (l.map Prod.fst) t, 0) ∧ okB l (t.pars (-1)) l.length = true := by
    unfold readZ at h ⊢
    rw [if_neg (by simp [h0]), hup] at h ⊢
    split at h
    · next hok => exact ⟨by rw [if_pos hok, hpt], hok⟩
    · simp at h
  obtain ⟨hr, hok⟩ := hr
  have hk : keysM id (mtP (l.map Prod.fst) t) = l.map Prod.fst := by
    rw [mtP_keys _ t 0 hta (by simp; omega), List.drop_zero, List.take_of_length_le (by simp; omega)]
  have hup2 : Up (l.map Prod.fst) := by
    rw [Up, List.pairwise_iff_getElem]
    intro i j hi hj hij
    simp only [List.length_map] at hi hj
    simp only [List.getElem_map]
    exact mapRight_rise l hmr i j hi hj hij
  rw [okB_iff] at hok
  have hhp := (hp_of (l.map Prod.fst) t 0 (-1) hta (.inl (by omega)) (fun j v hj hv h1 h2 => by
    have hg : gI (t.pars (-1)) j = v := by rw [gI, List.getD_eq_getElem?_getD, hv]; rfl
    have := hok j (by omega) (by rw [hg]; exact h1)
    rw [hg] at this
    rw [getD_fstZ, getD_fstZ, Nat.zero_add]; exact this)).1
  rw [hr]
  simp only
  refine ⟨⟨by rw [nd_mapZ, hk], hhp, hup2⟩, ?_, hlen, by rw [mapZ_size, mtP_sizeZ]; omega, fun k hkm => ?_⟩
  · rw [mapZ_spots]
    refine pair_ext (by rw [spotsBy_keys, hk]) ?_
    rw [mtP_deps]
    apply List.ext_getElem?
    intro j
    rw [List.getElem?_map]
    by_cases hj : j < l.length
    · have := hdd j (by omega)
      rw [Nat.zero_add, gv_eq l j hj] at this
      rw [← this, List.getElem?_eq_getElem hj]; rfl
    · rw [List.getElem?_eq_none (by rw [PT.deps_len]; omega), List.getElem?_eq_none (by omega)]; rfl
  · obtain ⟨p, hp, rfl⟩ := List.mem_map.1 hkm
    exact mapRight_in l hmr p hp
/-- Parted and put together again it is as it was; both parts have just their keys. -/
theorem zip_parts {l : List IP} {key : Int} (h : (splitZ l key).2.2 = 0) : mergeZ (splitZ l key).1 (splitZ l key).2.1 = (l, 0) ∧ (parOf (splitZ l key).1).2 = 0 ∧ (parOf (splitZ l key).2.1).2 = 0 ∧ (∀ s ∈ (splitZ l key).1, s.1 < key) ∧ (∀ s ∈ (splitZ l key).2.1, ¬ s.1 < key) := by
  have hr : (readZ l).2 = 0 := by
    unfold splitZ at h
    by_cases hr : (readZ l).2 = 0
    · exact hr
    · rw [if_pos hr] at h; exact h
  have hk : ¬ (key < 0 ∨ 1000000 < key) := fun hk => by
    unfold splitZ at h
    rw [if_neg (by simp [hr]), if_pos hk] at h
    simp at h
  have hs : splitZ l key = ((unz (mapZ (readZ l).1) key).1.spotsBy Prod.fst 0, (unz (mapZ (readZ l).1) key).2.spotsBy Prod.fst 0, 0) := by rw [splitZ, if_neg (by simp [hr]), if_neg hk]
  obtain ⟨z, hsp, hlen, hsz, hin⟩ := readZ_facts hr
  obtain ⟨M, hM⟩ : ∃ M, M = mapZ (readZ l).1 := ⟨_, rfl⟩
  rw [← hM] at hs z hsp hsz
  have hu : UpN (nd M) := by rw [z.nd_]; exact zk_up z.up
  obtain ⟨e1, e2⟩ := nd_unz M key hu
  obtain ⟨i1, i2⟩ := hp_unz M key hu z.hp
  have hus := unz_size M key
  have hn1 : nd (unz M key).1 = ((l.map Prod.fst).filter (fun x => decide (x < key))).map zk := by rw [e1, z.nd_, List.filter_map]; simp [Function.comp_def, zk] <;> rfl
  have hn2 : nd (unz M key).2 = ((l.map Prod.fst).filter (fun x => !decide (x < key))).map zk := by rw [e2, z.nd_, List.filter_map]; simp [Function.comp_def, zk] <;> rfl
  have z1 : ZI (unz M key).1 _ := ⟨hn1, i1, z.up.filter _⟩
  have z2 : ZI (unz M key).2 _ := ⟨hn2, i2, z.up.filter _⟩
  obtain ⟨a0, A, ra, ma⟩ := readZ_spots z1 (by omega) (fun k hk => hin k (List.mem_filter.1 hk).1)
  obtain ⟨b0, B, rb, mb⟩ := readZ_spots z2 (by omega) (fun k hk => hin k (List.mem_filter.1 hk).1)
  have kx : ∀ s ∈ (unz M key).1.spotsBy Prod.fst 0, s.1 < key := fun s hs => by
    have : s.1 ∈ ((unz M key).1.spotsBy Prod.fst 0).map Prod.fst := List.mem_map_of_mem hs
    rw [spotsBy_keys, keysM_ndB, hn1, List.map_map] at this
    obtain ⟨k, hk, e⟩ := List.mem_map.1 this
    have := (List.mem_filter.1 hk).2
    simp only [Function.comp_apply, zk] at e
    rw [← e]; simpa using this
  have ky : ∀ s ∈ (unz M key).2.spotsBy Prod.fst 0, ¬ s.1 < key := fun s hs => by
    have : s.1 ∈ ((unz M key).2.spotsBy Prod.fst 0).map Prod.fst := List.mem_map_of_mem hs
    rw [spotsBy_keys, keysM_ndB, hn2, List.map_map] at this
    obtain ⟨k, hk, e⟩ := List.mem_map.1 this
    have := (List.mem_filter.1 hk).2
    simp only [Function.comp_apply, zk] at e
    rw [← e]; simpa using this
  have hzm : zipM (unz M key).1 (unz M key).2 = M := by
    refine hp_one _ _ ?_ (hp_zip _ _ _ (Nat.le_refl _) i1 i2 (fun x hx y hy => ?_)) z.hp ?_
    · rw [nd_zip _ _ _ (Nat.le_refl _), hn1, hn2, ← List.map_append, filt_app z.up, z.nd_]
    · rw [e1] at hx; rw [e2] at hy
      have h1 := (List.mem_filter.1 hx).2
      have h2 := (List.mem_filter.1 hy).2
      simp at h1 h2; omega
    · rw [nd_zip _ _ _ (Nat.le_refl _), hn1, hn2, ← List.map_append, filt_app z.up]; exact zk_up z.up
  rw [hs]
  simp only
  refine ⟨?_, a0, b0, kx, ky⟩
  have hbad : badZ ((unz M key).1.spotsBy Prod.fst 0) ((unz M key).2.spotsBy Prod.fst 0) = false := by
    unfold badZ
    split
    · next x y hx hy =>
      have h1 := kx x (List.mem_of_getLast? hx)
      have h2 := ky y (List.mem_of_head? hy)
      simp; omega
    · rfl
  rw [mergeZ, if_neg (by simp [a0]), if_neg (by simp [b0]), ra, rb, if_neg (by simp [hbad]), if_neg (by rw [MT.spotsBy_len, MT.spotsBy_len]; omega)]
  simp only
  rw [ma, mb, hzm, hsp]
end Go.Proofs.YtfgbbmjnjppfnaaDoor
namespace Go.Proofs.YtfgbbmjnjppfnaaDoor
open Go.ChangeShapes Go.WideShapes Go.ChangeAt Go.RowKit
set_option linter.unusedVariables false
set_option linter.unusedSimpArgs false

theorem xor_bit (x n k : Nat) : (x ^^^ x / 2 ^ n) / 2 ^ k % 2 = (x / 2 ^ k % 2 + x / 2 ^ (k + n) % 2) % 2 := by
  have h := Nat.testBit_xor x (x / 2 ^ n) k
  rw [Nat.testBit_div_two_pow] at h
  simp only [Nat.testBit_eq_decide_div_mod_eq] at h
  try rw [Nat.add_comm n k] at h
  have e1 := Nat.mod_two_eq_zero_or_one ((x ^^^ x / 2 ^ n) / 2 ^ k)
  have e2 := Nat.mod_two_eq_zero_or_one (x / 2 ^ k)
  have e3 := Nat.mod_two_eq_zero_or_one (x / 2 ^ (k + n))
  rcases e1 with e1 | e1 <;> rcases e2 with e2 | e2 <;> rcases e3 with e3 | e3 <;> rw [e1, e2, e3] at h ⊢ <;> simp at h ⊢
def bitN (x n : Nat) : Nat := if 63 < n then 0 else x / 2 ^ n % 2
theorem bitN_lt {x : Nat} (hx : x < 2 ^ 64) (n : Nat) : bitN x n = x / 2 ^ n % 2 := by
  unfold bitN
  split
  · next h =>
    rw [Nat.div_eq_of_lt (Nat.lt_of_lt_of_le hx (Nat.pow_le_pow_right (by omega) (by omega)))]
  · rfl
theorem bitN_le (x n : Nat) : bitN x n ≤ 1 := by unfold bitN; split <;> omega
def exN (x n : Nat) : Nat := x ^^^ x / 2 ^ n
theorem exN_lt {x : Nat} (hx : x < 2 ^ 64) (n : Nat) : exN x n < 2 ^ 64 := Nat.xor_lt_two_pow hx (Nat.lt_of_le_of_lt (Nat.div_le_self _ _) hx)
theorem half_step (y k : Nat) : y / 2 ^ k = 2 * (y / 2 ^ (k + 1)) + y / 2 ^ k % 2 := by
  rw [Nat.pow_succ, ← Nat.div_div_eq_div_mul]; omega
theorem exN_step {x : Nat} (hx : x < 2 ^ 64) (n k : Nat) : exN x n / 2 ^ k = 2 * (exN x n / 2 ^ (k + 1)) + (bitN x k + bitN x (k + n)) % 2 := by
  rw [half_step, bitN_lt hx, bitN_lt hx, exN, xor_bit]
theorem mul_step (a b k : Nat) : (b / 2 ^ k) * a % 2 ^ 64 = (2 * ((b / 2 ^ (k + 1)) * a % 2 ^ 64) % 2 ^ 64 + (b / 2 ^ k % 2) * a) % 2 ^ 64 := by
  conv => lhs; rw [half_step b k, Nat.add_mul, Nat.mul_assoc]
  rw [Nat.add_mod, Nat.mul_mod 2, Nat.add_mod _ (b / 2 ^ k % 2 * a)]
  simp [Nat.mul_mod]

theorem and_compl (n x : Nat) (h : x < 2 ^ n) : x &&& (2 ^ n - (x + 1)) = 0 := by
  apply Nat.eq_of_testBit_eq
  intro i
  rw [Nat.testBit_and, Nat.testBit_two_pow_sub_succ h]
  simp
  intro h1 h2
  exact h1
theorem and_odd (m m' : Nat) (h : m &&& m' = 0) : (2 * m + 1) &&& (2 * m' + 1) = 1 := by
  apply Nat.eq_of_testBit_eq
  intro i
  rw [Nat.testBit_and]
  cases i with
  | zero => simp
  | succ i =>
    have h1 : (2 * m + 1).testBit (i + 1) = m.testBit i := by
      rw [Nat.testBit_succ]; congr 1; omega
    have h2 : (2 * m' + 1).testBit (i + 1) = m'.testBit i := by
      rw [Nat.testBit_succ]; congr 1; omega
    have h3 : (1 : Nat).testBit (i + 1) = false := by rw [Nat.testBit_succ]; simp
    rw [h1, h2, h3, ← Nat.testBit_and, h, Nat.zero_testBit]
theorem and_neg (t m : Nat) (h : 2 ^ t * (2 * m + 1) < 2 ^ 64) : (2 ^ t * (2 * m + 1)) &&& (2 ^ 64 - 2 ^ t * (2 * m + 1)) = 2 ^ t := by
  have ht : t < 64 := by
    refine (Nat.pow_lt_pow_iff_right (a := 2) (by omega)).mp (Nat.lt_of_le_of_lt ?_ h)
    exact Nat.le_mul_of_pos_right _ (by omega)
  obtain ⟨u, hu⟩ : ∃ u, 64 = t + 1 + u := ⟨63 - t, by omega⟩
  have e : 2 ^ 64 = 2 ^ t * (2 * 2 ^ u) := by rw [hu, Nat.pow_add, Nat.pow_succ, Nat.mul_assoc]
  have hm : m < 2 ^ u := by
    rw [e] at h
    have := Nat.lt_of_mul_lt_mul_left h
    omega
  have e2 : 2 ^ 64 - 2 ^ t * (2 * m + 1) = 2 ^ t * (2 * (2 ^ u - (m + 1)) + 1) := by
    rw [e, ← Nat.mul_sub]; congr 1; omega
  rw [e2]
  have hs := Nat.shiftLeft_and_distrib (a := 2 * m + 1) (b := 2 * (2 ^ u - (m + 1)) + 1) (i := t)
  simp only [Nat.shiftLeft_eq] at hs
  rw [Nat.mul_comm (2 ^ t), Nat.mul_comm (2 ^ t), ← hs, and_odd _ _ (and_compl u m hm), Nat.one_mul]
def dbOk (t : Nat) : Bool := dbTab.getD (2 ^ t * 285870213051353865 % 18446744073709551616 / 288230376151711744) 0 == (t : Int)
theorem db_all' : ∀ t : Nat, t < 64 → dbOk t = true
  | 0, _ => by decide +kernel
  | 1, _ => by decide +kernel
  | 2, _ => by decide +kernel
  | 3, _ => by decide +kernel
  | 4, _ => by decide +kernel
  | 5, _ => by decide +kernel
  | 6, _ => by decide +kernel
  | 7, _ => by decide +kernel
  | 8, _ => by decide +kernel
  | 9, _ => by decide +kernel
  | 10, _ => by decide +kernel
  | 11, _ => by decide +kernel
  | 12, _ => by decide +kernel
  | 13, _ => by decide +kernel
  | 14, _ => by decide +kernel
  | 15, _ => by decide +kernel
  | 16, _ => by decide +kernel
  | 17, _ => by decide +kernel
  | 18, _ => by decide +kernel
  | 19, _ => by decide +kernel
  | 20, _ => by decide +kernel
  | 21, _ => by decide +kernel
  | 22, _ => by decide +kernel
  | 23, _ => by decide +kernel
  | 24, _ => by decide +kernel
  | 25, _ => by decide +kernel
  | 26, _ => by decide +kernel
  | 27, _ => by decide +kernel
  | 28, _ => by decide +kernel
  | 29, _ => by decide +kernel
  | 30, _ => by decide +kernel
  | 31, _ => by decide +kernel
  | 32, _ => by decide +kernel
  | 33, _ => by decide +kernel
  | 34, _ => by decide +kernel
  | 35, _ => by decide +kernel
  | 36, _ => by decide +kernel
  | 37, _ => by decide +kernel
  | 38, _ => by decide +kernel
  | 39, _ => by decide +kernel
  | 40, _ => by decide +kernel
  | 41, _ => by decide +kernel
  | 42, _ => by decide +kernel
  | 43, _ => by decide +kernel
  | 44, _ => by decide +kernel
  | 45, _ => by decide +kernel
  | 46, _ => by decide +kernel
  | 47, _ => by decide +kernel
  | 48, _ => by decide +kernel
  | 49, _ => by decide +kernel
  | 50, _ => by decide +kernel
  | 51, _ => by decide +kernel
  | 52, _ => by decide +kernel
  | 53, _ => by decide +kernel
  | 54, _ => by decide +kernel
  | 55, _ => by decide +kernel
  | 56, _ => by decide +kernel
  | 57, _ => by decide +kernel
  | 58, _ => by decide +kernel
  | 59, _ => by decide +kernel
  | 60, _ => by decide +kernel
  | 61, _ => by decide +kernel
  | 62, _ => by decide +kernel
  | 63, _ => by decide +kernel
  | n + 64, h => absurd h (by omega)
theorem db_all (t : Nat) (h : t < 64) : dbTab.getD (2 ^ t * 285870213051353865 % 18446744073709551616 / 288230376151711744) 0 = (t : Int) := by
  have := db_all' t h
  simpa [dbOk] using this
theorem tzF_odd (t m : Nat) (h : 2 ^ t * (2 * m + 1) < 2 ^ 64) : tzF ((2 ^ t * (2 * m + 1) : Nat) : Int) = t := by
  obtain ⟨x, hx⟩ : ∃ x, x = 2 ^ t * (2 * m + 1) := ⟨_, rfl⟩
  have ha := and_neg t m h
  have ht : t < 64 := by
    refine (Nat.pow_lt_pow_iff_right (a := 2) (by omega)).mp (Nat.lt_of_le_of_lt ?_ h)
    exact Nat.le_mul_of_pos_right _ (by omega)
  have hp : 0 < x := by rw [hx]; exact Nat.mul_pos (Nat.pow_pos (by omega)) (by omega)
  rw [← hx] at ha h ⊢
  have hn : IntKind.u64.wrap (-(x : Int)) = ((2 ^ 64 - x : Nat) : Int) := by
    rw [IntKind.wrap_u64]; omega
  have hi : tzI x = ((2 ^ t * 285870213051353865 % 18446744073709551616 / 288230376151711744 : Nat) : Int) := by
    unfold tzI
    rw [hn, bits_and_u64_nat _ _ (by omega) (by omega), ha, IntKind.wrap_u64]
    obtain ⟨q, hq⟩ : ∃ q, q = 2 ^ t := ⟨_, rfl⟩
    rw [← hq]
    omega
  have hd := db_all t ht
  obtain ⟨i, hI⟩ : ∃ i, i = 2 ^ t * 285870213051353865 % 18446744073709551616 / 288230376151711744 := ⟨_, rfl⟩
  rw [← hI] at hi hd
  rw [tzF, if_neg (by omega), hi, Int.toNat_natCast]
  exact hd
theorem odd_part : ∀ (n x : Nat), x < n → 0 < x → ∃ t m, x = 2 ^ t * (2 * m + 1)
  | 0, x, h, _ => by omega
  | n + 1, x, h, h0 => by
    by_cases h2 : x % 2 = 1
    · exact ⟨0, x / 2, by simp; omega⟩
    · obtain ⟨t, m, e⟩ := odd_part n (x / 2) (by omega) (by omega)
      exact ⟨t + 1, m, by rw [Nat.pow_succ, Nat.mul_comm _ 2, Nat.mul_assoc, ← e]; omega⟩
theorem pow_bit (t m j : Nat) (h : j < t) : 2 ^ t * (2 * m + 1) / 2 ^ j % 2 = 0 := by
  obtain ⟨u, rfl⟩ : ∃ u, t = j + (u + 1) := ⟨t - j - 1, by omega⟩
  rw [Nat.pow_add, Nat.mul_assoc, Nat.mul_div_cancel_left _ (Nat.pow_pos (by omega)), Nat.pow_succ, Nat.mul_assoc, Nat.mul_comm, Nat.mul_assoc]
  exact Nat.mul_mod_right 2 _ 
theorem pow_bit_t (t m : Nat) : 2 ^ t * (2 * m + 1) / 2 ^ t % 2 = 1 := by
  rw [Nat.mul_div_cancel_left _ (Nat.pow_pos (by omega))]; omega
/-- The loop's end: h bits are 0, and the next is 1, or h is 11. -/
theorem hgt_end (x h : Nat) (hx : x < 2 ^ 64) (h0 : ∀ j, j < h → bitN x j = 0) (h1 : h = 11 ∨ (h < 11 ∧ bitN x h ≠ 0)) : (if 12 < tzF (x : Int) + 1 then 12 else tzF (x : Int) + 1) = (h : Int) + 1 := by
  by_cases hz : x = 0
  · subst hz
    rcases h1 with rfl | ⟨_, h1⟩
    · rfl
    · exact absurd (by simp [bitN]) h1
  · obtain ⟨t, m, e⟩ := odd_part (x + 1) x (by omega) (by omega)
    have ht : tzF (x : Int) = t := by rw [e]; exact tzF_odd t m (by omega)
    rw [ht]
    have k1 : h ≤ t := by
      refine Nat.le_of_not_lt fun hlt => ?_
      have := h0 t hlt
      rw [bitN_lt hx, e, pow_bit_t] at this
      omega
    rcases h1 with rfl | ⟨h2, h1⟩
    · split <;> omega
    · have k2 : t ≤ h := by
        refine Nat.le_of_not_lt fun hlt => h1 ?_
        rw [bitN_lt hx, e, pow_bit t m h hlt]
      split <;> omega
def mulN (a b : Nat) : Nat := a * b % 2 ^ 64
theorem mulN_lt (a b : Nat) : mulN a b < 2 ^ 64 := Nat.mod_lt _ (by omega)
def mixN (x : Nat) : Nat := exN (mulN (exN (mulN (exN x 30) 13787848793156543929) 27) 10723151780598845931) 31
theorem mixN_lt (x : Nat) : mixN x < 2 ^ 64 := exN_lt (mulN_lt _ _) _
theorem ex_bits (x s : Nat) (hx : x < 2 ^ 64) (p : Nat) (hp : p = 2 ^ s) : bits .xor .u64 (x : Int) ((x : Int) / (p : Int)) = ((exN x s : Nat) : Int) := by
  rw [xorShift_u64 x p (by omega), exN, hp]
theorem mul_bits (x c : Nat) : IntKind.u64.wrap ((x : Int) * (c : Int)) = ((mulN x c : Nat) : Int) := by
  rw [IntKind.wrap_u64, mulN, Int.natCast_emod, Int.natCast_mul]; rfl
theorem mixF_nat (x : Nat) (hx : x < 2 ^ 64) : mixF (x : Int) = ((mixN x : Nat) : Int) := by
  have e1 : x1 (x : Int) = ((exN x 30 : Nat) : Int) := ex_bits x 30 hx 1073741824 (by decide)
  have e2 : x2 (x : Int) = ((mulN (exN x 30) 13787848793156543929 : Nat) : Int) := by
    rw [x2, e1]; exact mul_bits _ 13787848793156543929
  have e3 : x3 (x : Int) = ((exN (mulN (exN x 30) 13787848793156543929) 27 : Nat) : Int) := by
    rw [x3, e2]; exact ex_bits _ 27 (mulN_lt _ _) 134217728 (by decide)
  have e4 : x4 (x : Int) = ((mulN (exN (mulN (exN x 30) 13787848793156543929) 27) 10723151780598845931 : Nat) : Int) := by
    rw [x4, e3]; exact mul_bits _ 10723151780598845931
  rw [mixF, e4]
  exact ex_bits _ 31 (mulN_lt _ _) 2147483648 (by decide)
end Go.Proofs.YtfgbbmjnjppfnaaDoor
namespace Go.Proofs.YtfgbbmjnjppfnaaDoor
open Go.ChangeShapes Go.WideShapes Go.ChangeAt Go.RowKit
set_option linter.unusedVariables false
set_option linter.unusedSimpArgs false

set_option maxRecDepth 100000 in
theorem bit_any (x n : Nat) (hx : x < 2 ^ 64) (hn : n ≤ 1000) (w : World) : Calls Tryd.prog 62 #[.int .u64 x, .int .i64 n] w fun e w' => e = .returned (.int .u64 (bitN x n : Nat)) ∧ w = w' := by
  by_cases h : 63 < n
  · have H : Hid (bitN x n = 0) := hide (by rw [bitN, if_pos h])
    have g : ((63 : Int) < (n : Int)) := by omega
    clear hx h
    go_enter Tryd.func62, Tryd.ntmps62
    go_wp2
    go_ret
    exact ⟨by rw [H.out]; rfl, rfl⟩
  · have H : Hid (bitN x n = x / 2 ^ n % 2) := hide (by rw [bitN, if_neg h])
    obtain ⟨q, hq⟩ : ∃ q, q = x / 2 ^ n := ⟨_, rfl⟩
    rw [← hq] at H
    have hq1 : (x : Int) / 2 ^ n = (q : Int) := by rw [hq, Int.natCast_ediv, Int.natCast_pow]; rfl
    have hql : q < 2 ^ 64 := by rw [hq]; exact Nat.lt_of_le_of_lt (Nat.div_le_self _ _) hx
    have hq2 : IntKind.u64.wrap ((q : Int).tmod 2) = ((q % 2 : Nat) : Int) := by
      rw [IntKind.wrap_u64, Int.tmod_eq_emod_of_nonneg (by omega)]; omega
    have g : ¬((63 : Int) < (n : Int)) := by omega
    have g0 : (0 : Int) ≤ (n : Int) := by omega
    have g1 : (n : Int) ≤ 64 := by omega
    clear hx h hq
    go_enter Tryd.func62, Tryd.ntmps62
    go_wp2
    go_ret
    exact ⟨by rw [H.out]; rfl, rfl⟩

def ExRel (x n : Nat) (w : World) (ov kv : Value) (wr : World) : Prop := ∃ j : Nat, j ≤ 64 ∧ kv = .int .i64 ((j : Int) - 1) ∧ ov = .int .u64 ((exN x n / 2 ^ j : Nat) : Int) ∧ w = wr
set_option maxRecDepth 100000 in
set_option maxHeartbeats 400000 in
theorem exchanged_any (x n : Nat) (hx : x < 2 ^ 64) (hn : n ≤ 64) (w : World) : Calls Tryd.prog 61 #[.int .u64 x, .int .i64 n] w fun e w' => e = .returned (.int .u64 (exN x n : Nat)) ∧ w = w' := by
  have HB := hide (fun k W (h : k ≤ 1000) => bit_any x k hx h W)
  have HX := hide hx
  clear hx
  go_enter Tryd.func61, Tryd.ntmps61
  go_wp2
  go_loopw [5, 6] (ExRel x n w) (fun _ k _ => (intOf k + 1).toNat)
  case atStart => exact ⟨64, by omega, rfl, by rw [Nat.div_eq_of_lt (exN_lt HX.out n)]; rfl, rfl⟩
  case round =>
    obtain ⟨j, hj, rfl, rfl, rfl⟩ := hrel
    cases j with
    | zero =>
      go_wp2
      go_ret
      exact ⟨by simp, rfl⟩
    | succ m =>
      have e0 : ((m + 1 : Nat) : Int) - 1 = (m : Int) := by omega
      rw [e0]
      have HS := hide (exN_step HX.out n m)
      have hL := bitN_le x m
      have hM := bitN_le x (m + n)
      have hO : exN x n / 2 ^ (m + 1) < 2 ^ 63 := by
        have := exN_lt HX.out n
        refine Nat.div_lt_of_lt_mul (Nat.lt_of_lt_of_le this ?_)
        have h2 : 1 ≤ 2 ^ m := Nat.pow_pos (by omega)
        rw [Nat.pow_succ]
        omega
      have HB1 := hide (fun W => HB.out m W (by omega))
      have HB2 := hide (fun W => HB.out (m + n) W (by omega))
      obtain ⟨o, ho⟩ : ∃ o, o = exN x n / 2 ^ (m + 1) := ⟨_, rfl⟩
      obtain ⟨p, hp⟩ : ∃ p, p = bitN x m := ⟨_, rfl⟩
      obtain ⟨q, hq⟩ : ∃ q, q = bitN x (m + n) := ⟨_, rfl⟩
      rw [← ho] at HS hO ⊢
      rw [← hp] at HB1 HS hL
      rw [← hq] at HB2 HS hM
      clear ho hp hq
      have s0 : IntKind.i64.wrap ((m : Int) + (n : Int)) = ((m + n : Nat) : Int) := by rw [IntWalk.i64_in _ (by omega)]; omega
      have s1 : IntKind.u64.wrap (2 * (o : Int)) = ((2 * o : Nat) : Int) := by rw [IntKind.wrap_u64]; omega
      have s2 : IntKind.u64.wrap ((p : Int) + (q : Int)) = ((p + q : Nat) : Int) := by rw [IntKind.wrap_u64]; omega
      have s3 : IntKind.u64.wrap (((p + q : Nat) : Int).tmod 2) = (((p + q) % 2 : Nat) : Int) := by rw [IntKind.wrap_u64, Int.tmod_eq_emod_of_nonneg (by omega)]; omega
      have s4 : IntKind.u64.wrap (((2 * o : Nat) : Int) + (((p + q) % 2 : Nat) : Int)) = ((2 * o + (p + q) % 2 : Nat) : Int) := by rw [IntKind.wrap_u64]; omega
      have s5 : IntKind.i64.wrap ((m : Int) - 1) = (m : Int) - 1 := IntWalk.i64_in _ (by omega)
      obtain ⟨S, hS⟩ : ∃ S, S = m + n := ⟨_, rfl⟩
      obtain ⟨R, hR⟩ : ∃ R, R = p + q := ⟨_, rfl⟩
      obtain ⟨D, hD⟩ : ∃ D, D = 2 * o := ⟨_, rfl⟩
      rw [← hS] at s0 HB2
      rw [← hR] at s2 s3 s4 HS
      rw [← hD] at s1 s4 HS
      obtain ⟨C, hC⟩ : ∃ C, C = R % 2 := ⟨_, rfl⟩
      rw [← hC] at s3 s4 HS
      have g0 : (0 : Int) ≤ (m : Int) := by omega
      have s6 : IntKind.u64.wrap ((D : Int) + (R : Int) % 2) = ((D + C : Nat) : Int) := by rw [← s4, hC]; rfl
      clear hS hR hD hC
      go_wp2_with fail
      with_reducible refine (HB1.out _).mono ?_
      rintro e w1 ⟨rfl, rfl⟩
      go_wp2_with fail
      with_reducible refine (HB2.out _).mono ?_
      rintro e w1 ⟨rfl, rfl⟩
      go_wp2
      go_roundw
      case rel => exact ⟨m, by omega, rfl, by rw [HS.out, Int.natCast_add], rfl⟩
      case measure => (simp [intOf] <;> omega)

theorem exchanged_at (x n : Nat) (N : Int) (hN : N = (n : Int)) (hx : x < 2 ^ 64) (hn : n ≤ 64) (w : World) : Calls Tryd.prog 61 #[.int .u64 x, .int .i64 N] w fun e w' => e = .returned (.int .u64 (exN x n : Nat)) ∧ w = w' := by
  rw [hN]; exact exchanged_any x n hx hn w

def TwRel (a b : Nat) (w : World) (ov kv : Value) (wr : World) : Prop := ∃ j : Nat, j ≤ 64 ∧ kv = .int .i64 ((j : Int) - 1) ∧ ov = .int .u64 ((b / 2 ^ j * a % 2 ^ 64 : Nat) : Int) ∧ w = wr
set_option maxRecDepth 100000 in
set_option maxHeartbeats 400000 in
theorem timesTwo_any (a b : Nat) (ha : a < 2 ^ 64) (hb : b < 2 ^ 64) (w : World) : Calls Tryd.prog 60 #[.int .u64 a, .int .u64 b] w fun e w' => e = .returned (.int .u64 (mulN a b : Nat)) ∧ w = w' := by
  have HB := hide (fun k W (h : k ≤ 1000) => bit_any b k hb h W)
  have HX := hide hb
  have HA := hide ha
  clear ha hb
  go_enter Tryd.func60, Tryd.ntmps60
  go_wp2
  go_loopw [5, 6] (TwRel a b w) (fun _ k _ => (intOf k + 1).toNat)
  case atStart => exact ⟨64, by omega, rfl, by rw [Nat.div_eq_of_lt HX.out]; simp, rfl⟩
  case round =>
    obtain ⟨j, hj, rfl, rfl, rfl⟩ := hrel
    cases j with
    | zero =>
      go_wp2
      go_ret
      exact ⟨by rw [mulN, Nat.mul_comm]; simp, rfl⟩
    | succ m =>
      have e0 : ((m + 1 : Nat) : Int) - 1 = (m : Int) := by omega
      rw [e0]
      have HS := hide (mul_step a b m)
      have HL := hide (bitN_lt HX.out m)
      have hL := bitN_le b m
      have HB1 := hide (fun W => HB.out m W (by omega))
      have hO : b / 2 ^ (m + 1) * a % 2 ^ 64 < 2 ^ 64 := Nat.mod_lt _ (by omega)
      have hA := HA.out
      obtain ⟨o, ho⟩ : ∃ o, o = b / 2 ^ (m + 1) * a % 2 ^ 64 := ⟨_, rfl⟩
      obtain ⟨p, hp⟩ : ∃ p, p = bitN b m := ⟨_, rfl⟩
      rw [← ho] at HS hO ⊢
      rw [← hp] at HB1 HL hL
      rw [← HL.out] at HS
      clear ho hp HL
      have s1 : IntKind.u64.wrap ((o : Int) + (o : Int)) = ((2 * o % 2 ^ 64 : Nat) : Int) := by rw [IntKind.wrap_u64]; omega
      have s5 : IntKind.i64.wrap ((m : Int) - 1) = (m : Int) - 1 := IntWalk.i64_in _ (by omega)
      have s4 : IntKind.u64.wrap (((2 * o % 2 ^ 64 : Nat) : Int) + (a : Int)) = (((2 * o % 2 ^ 64 + a) % 2 ^ 64 : Nat) : Int) := by rw [IntKind.wrap_u64]; omega
      obtain ⟨D, hD⟩ : ∃ D, D = 2 * o % 2 ^ 64 := ⟨_, rfl⟩
      have hDl : D < 2 ^ 64 := by rw [hD]; exact Nat.mod_lt _ (by omega)
      rw [← hD] at s1 s4 HS
      obtain ⟨E, hE⟩ : ∃ E, E = (D + a) % 2 ^ 64 := ⟨_, rfl⟩
      rw [← hE] at s4
      have g0 : (0 : Int) ≤ (m : Int) := by omega
      have hp01 : p = 0 ∨ p = 1 := by omega
      have HE := hide hE
      have HDl := hide hDl
      clear hD hE hDl
      go_wp2_with fail
      with_reducible refine (HB1.out _).mono ?_
      rintro e w1 ⟨rfl, rfl⟩
      rcases hp01 with rfl | rfl
      · go_wp2
        go_roundw
        case rel => exact ⟨m, by omega, rfl, by rw [HS.out, Nat.zero_mul, Nat.add_zero, Nat.mod_eq_of_lt HDl.out], rfl⟩
        case measure => (simp [intOf] <;> omega)
      · go_wp2
        go_roundw
        case rel => exact ⟨m, by omega, rfl, by rw [HS.out, Nat.one_mul, HE.out], rfl⟩
        case measure => (simp [intOf] <;> omega)

theorem timesTwo_at (a b : Nat) (B : Int) (hB : B = (b : Int)) (ha : a < 2 ^ 64) (hb : b < 2 ^ 64) (w : World) : Calls Tryd.prog 60 #[.int .u64 a, .int .u64 B] w fun e w' => e = .returned (.int .u64 (mulN a b : Nat)) ∧ w = w' := by
  rw [hB]; exact timesTwo_any a b ha hb w

def HoRel (x : Nat) (w : World) (hv : Value) (wr : World) : Prop := ∃ h : Nat, h ≤ 11 ∧ hv = .int .i64 ((h : Int) + 1) ∧ (∀ j, j < h → bitN x j = 0) ∧ w = wr
set_option maxRecDepth 100000 in
set_option maxHeartbeats 400000 in
theorem heightR_any (key : Int) (w : World) : Calls Tryd.prog 40 #[.int .i64 key] w fun e w' => e = .returned (.int .i64 (hgtF key)) ∧ w = w' := by
  obtain ⟨k0, hk0⟩ : ∃ k : Nat, IntKind.u64.wrap key = (k : Int) := ⟨(IntKind.u64.wrap key).toNat, by rw [IntKind.wrap_u64]; omega⟩
  have hkl : k0 < 2 ^ 64 := by rw [IntKind.wrap_u64] at hk0; omega
  have HX1 := hide (fun W => exchanged_at k0 30 30 rfl hkl (by omega) W)
  have HX2 := hide (fun W => timesTwo_at (exN k0 30) 13787848793156543929 13787848793156543929 rfl (exN_lt hkl _) (by omega) W)
  have HX3 := hide (fun W => exchanged_at (mulN (exN k0 30) 13787848793156543929) 27 27 rfl (mulN_lt _ _) (by omega) W)
  have HX4 := hide (fun W => timesTwo_at (exN (mulN (exN k0 30) 13787848793156543929) 27) 10723151780598845931 10723151780598845931 rfl (exN_lt (mulN_lt _ _) _) (by omega) W)
  have HX5 := hide (fun W => exchanged_at (mulN (exN (mulN (exN k0 30) 13787848793156543929) 27) 10723151780598845931) 31 31 rfl (mulN_lt _ _) (by omega) W)
  have HF : Hid (hgtF key = if 12 < tzF ((mixN k0 : Nat) : Int) + 1 then 12 else tzF ((mixN k0 : Nat) : Int) + 1) := hide (by rw [hgtF, hk0, mixF_nat k0 hkl])
  have HML := hide (mixN_lt k0)
  obtain ⟨a1, h1⟩ : ∃ a, a = exN k0 30 := ⟨_, rfl⟩
  rw [← h1] at HX1 HX2 HX3 HX4 HX5
  obtain ⟨a2, h2⟩ : ∃ a, a = mulN a1 13787848793156543929 := ⟨_, rfl⟩
  rw [← h2] at HX2 HX3 HX4 HX5
  obtain ⟨a3, h3⟩ : ∃ a, a = exN a2 27 := ⟨_, rfl⟩
  rw [← h3] at HX3 HX4 HX5
  obtain ⟨a4, h4⟩ : ∃ a, a = mulN a3 10723151780598845931 := ⟨_, rfl⟩
  rw [← h4] at HX4 HX5
  obtain ⟨x, h5⟩ : ∃ a, a = mixN k0 := ⟨_, rfl⟩
  have h6 : exN a4 31 = x := by rw [h5, mixN, h4, h3, h2, h1]
  rw [h6] at HX5
  rw [← h5] at HF HML
  have HB := hide (fun k W (h : k ≤ 1000) => bit_any x k HML.out h W)
  clear h1 h2 h3 h4 h5 h6 hkl
  go_enter Tryd.func40, Tryd.ntmps40
  go_wp2_with fail
  with_reducible refine (HX1.out _).mono ?_
  rintro e w1 ⟨rfl, rfl⟩
  go_wp2_with fail
  with_reducible refine (HX2.out _).mono ?_
  rintro e w1 ⟨rfl, rfl⟩
  go_wp2_with fail
  with_reducible refine (HX3.out _).mono ?_
  rintro e w1 ⟨rfl, rfl⟩
  go_wp2_with fail
  with_reducible refine (HX4.out _).mono ?_
  rintro e w1 ⟨rfl, rfl⟩
  go_wp2_with fail
  with_reducible refine (HX5.out _).mono ?_
  rintro e w1 ⟨rfl, rfl⟩
  go_wp2
  go_loopw [4] (HoRel x w) (fun h _ => (12 - intOf h).toNat)
  case atStart => exact ⟨0, by omega, rfl, fun j h => by omega, rfl⟩
  case round =>
    obtain ⟨h, hh, rfl, hz, rfl⟩ := hrel
    have HZ := hide hz
    clear hz
    by_cases he : h = 11
    · subst he
      go_wp2
      go_ret
      exact ⟨by rw [HF.out, hgt_end x 11 HML.out HZ.out (Or.inl rfl)]; rfl, rfl⟩
    · have hlt : ((h : Int) + 1 < 12) := by omega
      have s0 : IntKind.i64.wrap ((h : Int) + 1 - 1) = (h : Int) := by rw [IntWalk.i64_in _ (by omega)]; omega
      have s1 : IntKind.i64.wrap ((h : Int) + 1 + 1) = ((h + 1 : Nat) : Int) + 1 := by rw [IntWalk.i64_in _ (by omega)]; omega
      have HB1 := hide (fun W => HB.out h W (by omega))
      obtain ⟨p, hp⟩ : ∃ p, p = bitN x h := ⟨_, rfl⟩
      rw [← hp] at HB1
      go_wp2_with fail
      with_reducible refine (HB1.out _).mono ?_
      rintro e w1 ⟨rfl, rfl⟩
      by_cases hp0 : p = 0
      · subst hp0
        go_wp2
        go_roundw
        case rel => exact ⟨h + 1, by omega, rfl, fun j hj => (Nat.lt_succ_iff_lt_or_eq.mp hj).elim (HZ.out j) (fun h1 => by rw [h1]; exact hp.symm), rfl⟩
        case measure => (simp [intOf] <;> omega)
      · have g0 : ((p : Int) == 0) = false := by simpa using hp0
        go_wp2
        go_ret
        exact ⟨by rw [HF.out, hgt_end x h HML.out HZ.out (Or.inr ⟨by omega, by rw [← hp]; exact hp0⟩)]; rfl, rfl⟩
end Go.Proofs.YtfgbbmjnjppfnaaDoor
