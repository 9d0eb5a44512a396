/-
  hedglaw.GrowSays: the walk: it answers true. Conditions: the ops read as ops (RD), the keys as ints (RD).
-/
import Derived.Test.YtnallpdmdhbidaaGTree
import Derived.Test.YtnallpdmdhbidaaGRefs
import Derived.Test.YtnallpdmdhbidaaGLives
import Derived.Test.YtnallpdmdhbidaaEqAns
namespace Go.Proofs.Ytnallpdmdhbidaa
open Go.ChangeShapes Go.WideShapes Go.ChangeAt Go.RowKit
set_option linter.unusedVariables false
set_option linter.unusedSimpArgs false

def skel : MT IP → T
  | .nil => .nil
  | .node a l r => .node a.1 (skel l) (skel r)
theorem skel_spots : ∀ (t : MT IP) (d : Int), (skel t).spots d = t.spotsBy Prod.fst d
  | .nil, _ => rfl
  | .node a l r, d => by simp [skel, T.spots, MT.spotsBy, skel_spots l, skel_spots r]
theorem skel_size : ∀ t : MT IP, (skel t).size = t.size
  | .nil => rfl
  | .node a l r => by simp [skel, T.size, MT.size, skel_size l, skel_size r]
theorem skel_isN : ∀ t : MT IP, (skel t).isN = true ↔ t = .nil
  | .nil => by simp [skel, T.isN]
  | .node a l r => by simp [skel, T.isN]
theorem skel_ins : ∀ (t : MT IP) (p : IP), leafT (skel t) p.1 = skel (ins t p)
  | .nil, p => rfl
  | .node a l r, p => by
    simp only [skel, leafT, ins]
    split
    · simp [skel, skel_ins l]
    · split
      · simp [skel, skel_ins r]
      · rfl
theorem skel_least : ∀ t : MT IP, leastT (skel t) = (minA t).1
  | .nil => rfl
  | .node a .nil r => rfl
  | .node a (.node b x y) r => by
    have := skel_least (.node b x y)
    rw [minA, ← this]; rfl
theorem skel_delMin : ∀ t : MT IP, Up (kM t) → t ≠ .nil → unlT (skel t) (minA t).1 = skel (delMin t)
  | .nil, _, h => absurd rfl h
  | .node a .nil r, _, _ => by
    simp only [skel, minA, delMin, unlT]
    rw [if_neg (by omega), if_neg (by omega)]; rfl
  | .node a (.node b x y) r, h, _ => by
    obtain ⟨h1, h2, h3, h4⟩ := up_node h
    have ih := skel_delMin (.node b x y) h1 (by simp)
    have hm : (minA (.node b x y)).1 < a.1 := h3 _ (by rw [kM_delMin]; simp)
    rw [minA, delMin]
    show unlT (.node a.1 (skel (.node b x y)) (skel r)) _ = _
    rw [unlT, if_pos hm, ih]; rfl
theorem skel_del : ∀ (t : MT IP) (k : Int), Up (kM t) → unlT (skel t) k = skel (del t k)
  | .nil, _, _ => rfl
  | .node a l r, k, h => by
    obtain ⟨h1, h2, h3, h4⟩ := up_node h
    show unlT (.node a.1 (skel l) (skel r)) k = _
    rw [unlT, del]
    split
    · rw [skel_del l k h1]; rfl
    · split
      · rw [skel_del r k h2]; rfl
      · cases l with
        | nil => rfl
        | node c x y =>
          cases r with
          | nil => rfl
          | node d u z =>
            rw [if_neg (by rw [skel_isN]; simp), if_neg (by rw [skel_isN]; simp), skel_least, skel_delMin _ h2 (by simp), delTop_nn]
            rfl
theorem skel_fold : ∀ (l : List Int) (t : MT IP), l.foldl leafT (skel t) = skel (l.foldl insK t)
  | [], _ => rfl
  | x :: l, t => by
    rw [List.foldl_cons, List.foldl_cons, ← skel_fold l (insK t x), insK, ← skel_ins]
theorem skel_ofT (l : List Int) : l.foldl leafT .nil = skel (ofT l) := skel_fold l .nil
theorem skel_growS {t : MT IP} (h : Up (kM t)) (o : O3) (a : An) : grS (skel t) o a = skel (growS t o a) := by
  unfold grS growS
  split
  · rfl
  · split
    · exact skel_ins t (o.2.1, o.2.2)
    · split
      · exact skel_del t _ h
      · rfl
theorem skel_grow (ops : List O3) : ∀ k, k ≤ ops.length → grT ((opsZ ops).take k) = skel (growT ((opsZ ops).take k)) := by
  intro k
  induction k with
  | zero => intro _; rfl
  | succ k ih =>
    intro h
    have hz : (opsZ ops).length = ops.length := by
      have := runL_len ops ops.length (Nat.le_refl _)
      rw [List.take_length] at this
      rw [opsZ, List.length_zip, this]; omega
    rw [grT_snoc _ k (by omega), growT_snoc _ k (by omega), ih (by omega), skel_growS (grow_keys ops k (by omega)).2]
theorem skel_run (ops : List O3) : grT (ops.zip (runL ops).2) = skel (growT (opsZ ops)) := by
  have h := skel_grow ops ops.length (Nat.le_refl _)
  have hz : (opsZ ops).length = ops.length := by
    have := runL_len ops ops.length (Nat.le_refl _)
    rw [List.take_length] at this
    rw [opsZ, List.length_zip, this]; omega
  rw [List.take_of_length_le (by omega)] at h
  exact h

def GtRel (l : List Int) (w : World) (tv iv : Value) (wr : World) : Prop := ∃ (k : Nat) (p : Option Addr), k ≤ l.length ∧ iv = .int .i64 k ∧ tv = .pointer p ∧ TR wr ((l.take k).foldl leafT .nil) p ∧ Kp w wr
set_option maxRecDepth 100000 in
set_option maxHeartbeats 8000000 in
theorem growSays_walk (ops : List O3) (l : List Int) (vo v : Value) (w : World) (ho : RD w eOp vo ops) (hr : RD w eInt v l) : Calls Try.prog 4 #[vo, v] w (Ret (.bool true) w) := by
  obtain ⟨A, c, rfl, hc, hm⟩ := hr.shape
  obtain ⟨Ao, co, rfl, hco, hmo⟩ := ho.shape
  have HR := hide hr
  have HO := hide ho
  clear hr ho
  have HOF := hide (fun W v h => growOf_any l v W h)
  have HSO := hide (fun W v h => growSort_any l v W h)
  have HRN := hide (fun W v h => growRun_any ops v W h)
  have HUN := hide (fun W v h => unlike_any l v W h)
  have HLA : Hid ((runL ops).2.length = ops.length) := hide (by
    have := runL_len ops ops.length (Nat.le_refl _)
    rwa [List.take_length] at this)
  have HGR := hide (skel_run ops)
  have hgs : (growT (opsZ ops)).size ≤ ops.length := by
    have h1 := growT_size (opsZ ops) (opsZ ops).length (Nat.le_refl _)
    rw [List.take_length] at h1
    have h2 : (opsZ ops).length ≤ ops.length := by rw [opsZ, List.length_zip]; omega
    omega
  have hgs2 : ops.length ≤ 300 → (0 : Int) + (skel (growT (opsZ ops))).size ≤ 1073741824 := fun h => by rw [skel_size]; omega
  have hrun : (ops.length > 300 ∧ growRun ops = ([], [], 2)) ∨ (ops.length ≤ 300 ∧ growRun ops = ((growT (opsZ ops)).spotsBy Prod.fst 0, (runL ops).2, 0)) := by
    by_cases h : ops.length > 300
    · exact .inl ⟨h, by rw [growRun, if_pos h]⟩
    · exact .inr ⟨by omega, by rw [growRun, if_neg h]⟩
  obtain ⟨G, hG⟩ : ∃ G, G = growT (opsZ ops) := ⟨_, rfl⟩
  rw [← hG] at HGR hgs2 hrun
  obtain ⟨⟨S, AN, er⟩, hP⟩ : ∃ P, P = growRun ops := ⟨_, rfl⟩
  rw [← hP] at HRN hrun
  simp only [Prod.mk.injEq] at hrun
  have HRUN := hide hrun
  have HGS0 := hide hgs2
  clear hG hP hrun hgs hgs2
  by_cases h0 : rightG l = 0
  · obtain ⟨hlen, hki, hnd⟩ := rightG_ok l h0
    obtain ⟨f1, f2, f3, f4, f5⟩ := ofT_facts l.length l (Nat.le_refl _) hnd
    have hof : growOf l = ((ofT l).spotsBy Prod.fst 0, 0) := by rw [growOf, if_neg (by simp [h0])]
    have hso : sortG l = ((sortF l.length l).1, (sortF l.length l).2, 0) := by rw [sortG, if_neg (by simp [h0])]
    have HHE := hide (fun v w h => held_any l.length l v w (Nat.le_refl _) (by omega) h)
    have hsl := sortF_len l.length l
    have HSK := hide (fun v w h => sortedKeys_any l (sortF l.length l).1 v w h (by omega) hsl (by rw [f2]; exact f4) (by rw [f2]; exact f5) (fun y hy => (hki y hy).1))
    obtain ⟨⟨L, n⟩, hP⟩ : ∃ P, P = sortF l.length l := ⟨_, rfl⟩
    obtain ⟨B, hB⟩ : ∃ B, B = ofT l := ⟨_, rfl⟩
    have HBS : Hid ((0 : Int) + (skel B).size ≤ 1073741824) := hide (by rw [skel_size, hB, f1]; omega)
    have HBF : Hid (l.foldl leafT .nil = skel B) := hide (by rw [hB]; exact skel_ofT l)
    rw [← hP] at hso HHE HSK
    rw [← hB] at hof
    rw [hof] at HOF
    rw [hso] at HSO
    rw [h0] at HUN
    have b2 : (n != n) = false := by simp
    have HSN : Hid (∀ k (h : k < l.length), (l.take (k + 1)).foldl leafT .nil = leafT ((l.take k).foldl leafT .nil) l[k]) := hide (fun k h => by rw [List.take_succ_eq_append_getElem h, List.foldl_append]; rfl)
    clear h0 hki hnd f1 f2 f3 f4 f5 hof hso hsl hP hB
    go_enter Try.func4, Try.ntmps4
    go_wp2_with fail
    with_reducible refine (HRN.out _ _ HO.out).mono ?_
    rintro e w1 ⟨v1, u1, rfl, hr1, hu1, hb1⟩
    have kk1 := Kp.of hb1
    obtain ⟨A5, c5, rfl, _, _⟩ := hr1.shape
    obtain ⟨A6, c6, rfl, _, _⟩ := hu1.shape
    have HTU := hide (And.intro hr1 hu1)
    clear hr1 hu1 hb1
    go_wp2_with fail
    with_reducible refine ((HOF).out _ _ ((HR.out.kp kk1))).mono ?_
    rintro e w2 ⟨v2, rfl, hr2, hb2⟩
    have kk2 := Kp.of hb2
    have HR2 := hide hr2
    clear hr2 hb2
    obtain ⟨A2, c2, rfl, _, _⟩ := HR2.out.shape
    go_wp2_with fail
    with_reducible refine (HSO.out _ _ (HR.out.kp (kk1.trans kk2))).mono ?_
    rintro e w3 ⟨v3, rfl, hr3, hb3⟩
    have kk3 := Kp.of hb3
    obtain ⟨A3, c3, rfl, _, _⟩ := hr3.shape
    have HR3 := hide hr3
    clear hr3 hb3
    go_wp2_with fail
    with_reducible refine (HUN.out _ _ (HR.out.kp (kk1.trans (kk2.trans kk3)))).mono ?_
    rintro e w4 ⟨rfl, hb4⟩
    have kk4 := Kp.of hb4
    clear hb4
    have KA := kk1.trans (kk2.trans (kk3.trans kk4))
    have HR4 := hide (HR.out.kp KA)
    go_wp2
    go_loopw [14, 64] (GtRel l w4) (fun _ i _ => l.length - (intOf i).toNat)
    case atStart => exact ⟨0, none, by omega, rfl, rfl, rfl, Kp.refl _⟩
    case round =>
      obtain ⟨k, p, hk, rfl, rfl, ht, hkp⟩ := hrel
      have HT := hide ht
      clear ht
      by_cases hlt : k < l.length
      · obtain ⟨b, o, rfl, _, c0⟩ := (HR4.out.kp hkp).int hlt
        have hs := HSN.out k hlt
        obtain ⟨y, hy⟩ : ∃ y, y = l[k] := ⟨_, rfl⟩
        rw [← hy] at c0 hs
        have HS := hide hs
        obtain ⟨T0, hT0⟩ : ∃ T0, T0 = (l.take k).foldl leafT .nil := ⟨_, rfl⟩
        rw [← hT0] at HT HS
        have HLF := hide (fun W h => leaf_any T0 p y W h)
        clear hy hs hT0
        go_wp2_with fail
        with_reducible refine (HLF.out _ HT.out).mono ?_
        rintro e w5 ⟨p5, rfl, ht5, hb5⟩
        have kk5 := Kp.of hb5
        have HT5 := hide ht5
        clear ht5 hb5
        go_wp2
        go_roundw
        case rel => exact ⟨k + 1, p5, by omega, by go_num, rfl, by rw [HS.out]; exact HT5.out, hkp.trans kk5⟩
        case measure => simp [intOf]; omega
      · have HT5 : Hid (TR wr (skel B) p) := hide (by have := HT.out; rw [List.take_of_length_le (by omega), HBF.out] at this; exact this)
        clear HT
        go_wp2_with fail
        with_reducible refine (spots_any (skel B) p 0 _ HT5.out (by omega) HBS.out).mono ?_
        rintro e w5 ⟨v5, rfl, ho5, hb5⟩
        have kk5 := Kp.of hb5
        have HR5 := hide ho5.rd
        clear ho5 hb5
        go_wp2_with fail
        refine (sameSpots_to (B.spotsBy Prod.fst 0) ((skel B).spots 0) true _ _ _ (HR2.out.kp (kk3.trans (kk4.trans (hkp.trans kk5)))) HR5.out (by rw [skel_spots]; simp)).mono ?_
        rintro e w6 ⟨rfl, hb6⟩
        have kk6 := Kp.of hb6
        clear hb6
        go_wp2_with fail
        with_reducible refine (HSK.out _ _ (HR4.out.kp (hkp.trans (kk5.trans kk6)))).mono ?_
        rintro e w7 ⟨v7, rfl, ho7, hb7⟩
        have kk7 := Kp.of hb7
        have HR7 := hide ho7.rd
        clear ho7 hb7
        go_wp2_with fail
        with_reducible refine (sameInts_to L L true _ _ _ (HR3.out.kp (kk4.trans (hkp.trans (kk5.trans (kk6.trans kk7))))) HR7.out (by simp)).mono ?_
        rintro e w8 ⟨rfl, hb8⟩
        have kk8 := Kp.of hb8
        clear hb8
        go_wp2_with fail
        with_reducible refine (HHE.out _ _ (HR4.out.kp (hkp.trans (kk5.trans (kk6.trans (kk7.trans kk8)))))).mono ?_
        rintro e w9 ⟨rfl, hb9⟩
        have kk9 := Kp.of hb9
        clear hb9
        have KW : Kp w4 w9 := hkp.trans (kk5.trans (kk6.trans (kk7.trans (kk8.trans kk9))))
        have KB : Kp w1 w9 := kk2.trans (kk3.trans (kk4.trans KW))
        have KC : Kp w w9 := KA.trans KW
        clear kk1 kk2 kk3 kk4 kk5 kk6 kk7 kk8 kk9 hkp KA KW
        rcases HRUN.out with ⟨hbig, rfl, rfl, rfl⟩ | ⟨hsm, rfl, rfl, rfl⟩
        · have b9 : decide ((300 : Int) < (ops.length : Int)) = true := by simp; omega
          clear HTU
          go_wp2
          go_ret
          exact ⟨by simp, Kp.bel KC⟩
        · have b9 : decide ((300 : Int) < (ops.length : Int)) = false := by simp; omega
          have HAW := hide (fun w h => answered_any ops (.slice Ao ops.length co) w h hsm)
          go_wp2_with fail
          with_reducible refine (HAW.out _ (HO.out.kp KC)).mono ?_
          rintro e wa ⟨va, ua, rfl, hra, hua, hba⟩
          have kka := Kp.of hba
          obtain ⟨Aa, ca, rfl, _, _⟩ := hra.shape
          obtain ⟨Ab, cb, rfl, _, _⟩ := hua.shape
          have HUA := hide hua
          clear hra hua hba
          go_wp2_with fail
          refine (grown_any ops (runL ops).2 _ _ _ (HO.out.kp (Kp.trans KC kka)) HUA.out HLA.out).mono ?_
          rintro e wb ⟨pb, rfl, htb, hbb⟩
          have kkb := Kp.of hbb
          have HTB : Hid (TR wb (skel G) pb) := hide (by rw [← HGR.out]; exact htb)
          clear htb hbb
          go_wp2_with fail
          with_reducible refine (spots_any (skel G) pb 0 _ HTB.out (by omega) (HGS0.out hsm)).mono ?_
          rintro e wc ⟨vc, rfl, hoc, hbc⟩
          have kkc := Kp.of hbc
          have HRC := hide hoc.rd
          clear hoc hbc
          go_wp2_with fail
          refine (sameSpots_to (G.spotsBy Prod.fst 0) ((skel G).spots 0) true _ _ _ (HTU.out.1.kp (Kp.trans KB (Kp.trans kka (Kp.trans kkb kkc)))) HRC.out (by rw [skel_spots]; simp)).mono ?_
          rintro e wd ⟨rfl, hbd⟩
          have kkd := Kp.of hbd
          clear hbd
          go_wp2_with fail
          refine (eqAns_same (runL ops).2 _ _ _ (HTU.out.2.kp (Kp.trans KB (Kp.trans kka (Kp.trans kkb (Kp.trans kkc kkd))))) (HUA.out.kp (Kp.trans kkb (Kp.trans kkc kkd)))).mono ?_
          rintro e we ⟨rfl, hbe⟩
          have kke := Kp.of hbe
          clear hbe
          go_wp2
          go_ret
          exact ⟨by simp, Kp.bel (Kp.trans KC (Kp.trans kka (Kp.trans kkb (Kp.trans kkc (Kp.trans kkd kke)))))⟩
  · have hof : growOf l = ([], rightG l) := by rw [growOf, if_pos h0]
    have hso : sortG l = ([], 0, rightG l) := by rw [sortG, if_pos h0]
    obtain ⟨y, hy⟩ : ∃ y, y = rightG l := ⟨_, rfl⟩
    rw [hof, ← hy] at HOF
    rw [hso, ← hy] at HSO
    rw [← hy] at HUN h0
    have b0 : (y != 0) = true := by simpa using h0
    have b1 : (y != y) = false := by simp
    clear hof hso hy h0
    go_enter Try.func4, Try.ntmps4
    go_wp2_with fail
    with_reducible refine (HRN.out _ _ HO.out).mono ?_
    rintro e w1 ⟨v1, u1, rfl, hr1, hu1, hb1⟩
    have kk1 := Kp.of hb1
    obtain ⟨A5, c5, rfl, _, _⟩ := hr1.shape
    obtain ⟨A6, c6, rfl, _, _⟩ := hu1.shape
    have HTU := hide (And.intro hr1 hu1)
    clear hr1 hu1 hb1
    go_wp2_with fail
    with_reducible refine ((HOF).out _ _ ((HR.out.kp kk1))).mono ?_
    rintro e w2 ⟨v2, rfl, hr2, hb2⟩
    have kk2 := Kp.of hb2
    have HR2 := hide hr2
    clear hr2 hb2
    obtain ⟨A2, c2, rfl, _, _⟩ := HR2.out.shape
    go_wp2_with fail
    with_reducible refine (HSO.out _ _ (HR.out.kp (kk1.trans kk2))).mono ?_
    rintro e w3 ⟨v3, rfl, hr3, hb3⟩
    have kk3 := Kp.of hb3
    obtain ⟨A3, c3, rfl, _, _⟩ := hr3.shape
    clear hr3 hb3
    go_wp2_with fail
    with_reducible refine (HUN.out _ _ (HR.out.kp (kk1.trans (kk2.trans kk3)))).mono ?_
    rintro e w4 ⟨rfl, hb4⟩
    have kk4 := Kp.of hb4
    clear hb4
    have KB : Kp w1 w4 := kk2.trans (kk3.trans kk4)
    have KC : Kp w w4 := kk1.trans KB
    clear kk1 kk2 kk3 kk4
    rcases HRUN.out with ⟨hbig, rfl, rfl, rfl⟩ | ⟨hsm, rfl, rfl, rfl⟩
    · have b9 : decide ((300 : Int) < (ops.length : Int)) = true := by simp; omega
      clear HTU
      go_wp2
      go_ret
      exact ⟨by simp, Kp.bel KC⟩
    · have b9 : decide ((300 : Int) < (ops.length : Int)) = false := by simp; omega
      have HAW := hide (fun w h => answered_any ops (.slice Ao ops.length co) w h hsm)
      go_wp2_with fail
      with_reducible refine (HAW.out _ (HO.out.kp KC)).mono ?_
      rintro e wa ⟨va, ua, rfl, hra, hua, hba⟩
      have kka := Kp.of hba
      obtain ⟨Aa, ca, rfl, _, _⟩ := hra.shape
      obtain ⟨Ab, cb, rfl, _, _⟩ := hua.shape
      have HUA := hide hua
      clear hra hua hba
      go_wp2_with fail
      refine (grown_any ops (runL ops).2 _ _ _ (HO.out.kp (Kp.trans KC kka)) HUA.out HLA.out).mono ?_
      rintro e wb ⟨pb, rfl, htb, hbb⟩
      have kkb := Kp.of hbb
      have HTB : Hid (TR wb (skel G) pb) := hide (by rw [← HGR.out]; exact htb)
      clear htb hbb
      go_wp2_with fail
      with_reducible refine (spots_any (skel G) pb 0 _ HTB.out (by omega) (HGS0.out hsm)).mono ?_
      rintro e wc ⟨vc, rfl, hoc, hbc⟩
      have kkc := Kp.of hbc
      have HRC := hide hoc.rd
      clear hoc hbc
      go_wp2_with fail
      refine (sameSpots_to (G.spotsBy Prod.fst 0) ((skel G).spots 0) true _ _ _ (HTU.out.1.kp (Kp.trans KB (Kp.trans kka (Kp.trans kkb kkc)))) HRC.out (by rw [skel_spots]; simp)).mono ?_
      rintro e wd ⟨rfl, hbd⟩
      have kkd := Kp.of hbd
      clear hbd
      go_wp2_with fail
      refine (eqAns_same (runL ops).2 _ _ _ (HTU.out.2.kp (Kp.trans KB (Kp.trans kka (Kp.trans kkb (Kp.trans kkc kkd))))) (HUA.out.kp (Kp.trans kkb (Kp.trans kkc kkd)))).mono ?_
      rintro e we ⟨rfl, hbe⟩
      have kke := Kp.of hbe
      clear hbe
      go_wp2
      go_ret
      exact ⟨by simp, Kp.bel (Kp.trans KC (Kp.trans kka (Kp.trans kkb (Kp.trans kkc (Kp.trans kkd kke)))))⟩
end Go.Proofs.Ytnallpdmdhbidaa
