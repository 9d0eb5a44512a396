/-
  best.Tree: what it answers. Conditions: the lists read as they are named (RD).
-/
import Derived.Test.YtpmhpogkpkhbfaaBFill
import Derived.Test.YtpmhpogkpkhbfaaBRight
import Derived.Test.YtpmhpogkpkhbfaaBSpots
namespace Go.Proofs.Ytpmhpogkpkhbfaa
open Go.ChangeShapes Go.WideShapes Go.ChangeAt Go.RowKit
set_option linter.unusedVariables false
set_option linter.unusedSimpArgs false

def trB (hits gaps : List Int) : List IP × Int × Int := if brR hits gaps = 0 then (spB (bt (gD hits) (gD gaps)) hits.length 0 hits.length 0, bc (gD hits) (gD gaps) 0 hits.length, 0) else ([], 0, brR hits gaps)
def TrbPost (r : List IP × Int × Int) (w : World) (e : Ending) (w' : World) : Prop := ∃ v, e = .returned (.tuple #[v, .int .i64 r.2.1, .int .i64 r.2.2]) ∧ RD w' ePair v r.1 ∧ Kp w w'
theorem bt_tops {hits gaps : List Int} (h1 : ∀ x ∈ hits, 0 ≤ x ∧ x ≤ 1000) (h2 : ∀ x ∈ gaps, 0 ≤ x ∧ x ≤ 1000) (n : Nat) : TopsIn (bt (gD hits) (gD gaps)) n := fun i j hij _ => by
  obtain ⟨r, a1, a2, a3, _⟩ := bt_spec (h := gD hits) (g := gD gaps) (fun k => (gD_in h1 k).1) (fun k => (gD_in h2 k).1) hij
  exact ⟨r, a1, a2, a3⟩
theorem spB_congr {T T' : Nat → Nat → Int} {n : Nat} (hT : TopsIn T n) (h : ∀ i j, i < j → j ≤ n → T' i j = T i j) : ∀ m i j d, i ≤ j → j ≤ n → spB T' m i j d = spB T m i j d
  | 0, i, j, d, _, _ => rfl
  | m + 1, i, j, d, hij, hj => by
    rw [spB, spB]
    by_cases e : i < j
    · obtain ⟨r, h1, h2, h3⟩ := hT i j e hj
      rw [if_pos e, if_pos e, h i j e hj, h3, Int.toNat_natCast, spB_congr hT h m i r (d + 1) h1 (by omega), spB_congr hT h m (r + 1) j (d + 1) (by omega) hj]
    · rw [if_neg e, if_neg e]
set_option maxRecDepth 100000 in
set_option maxHeartbeats 8000000 in
theorem bTree_any (hits gaps : List Int) (v u : Value) (w : World) (hr : RD w eInt v hits) (hu : RD w eInt u gaps) : Calls Try.prog 8 #[v, u] w (TrbPost (trB hits gaps) w) := by
  have HRI := hide (right_any hits gaps v u w hr hu)
  obtain ⟨A1, c1, rfl, _, _⟩ := hr.shape
  obtain ⟨A2, c2, rfl, _, _⟩ := hu.shape
  have HR := hide hr
  have HU := hide hu
  clear hr hu
  by_cases he : brR hits gaps = 0
  · obtain ⟨b1, b2, b3, b4⟩ := brR_ok he
    rw [he] at HRI
    have HFI := hide (fun W v u h1 h2 => filled_any hits gaps v u W h1 h2 b1 b2 b3 b4)
    have HTI := hide (bt_tops b3 b4 hits.length)
    have HE := hide (show trB hits gaps = _ from if_pos he)
    obtain ⟨h, hh⟩ : ∃ h, h = gD hits := ⟨_, rfl⟩
    obtain ⟨g, hg⟩ : ∃ g, g = gD gaps := ⟨_, rfl⟩
    rw [← hh, ← hg] at HFI HTI HE
    have hn := b1
    clear he hh hg b1 b2 b3 b4
    go_enter Try.func8, Try.ntmps8
    go_wp2_with fail
    with_reducible refine HRI.out.mono ?_
    rintro e w1 ⟨rfl, hb1⟩
    have kk1 : Kp w w1 := Kp.of hb1
    clear hb1
    go_wp2_with fail
    with_reducible refine (HFI.out w1 _ _ (HR.out.kp kk1) (HU.out.kp kk1)).mono ?_
    rintro e w2 ⟨x1, x3, P2, N2, C2, M, rfl, hx1, hx3, hM, kk2⟩
    obtain ⟨P1, C1, rfl, _, _⟩ := hx1.shape
    obtain ⟨P3, C3, rfl, _, _⟩ := hx3.shape
    have HX1 := hide hx1
    have HX3 := hide hx3
    have HM := hide hM
    have K2 := kk1.trans kk2
    simp only [List.length_map, List.length_range]
    clear hx1 hx3 hM kk1 kk2
    go_wp2_with fail
    obtain ⟨n, hnn⟩ : ∃ n, n = hits.length := ⟨_, rfl⟩
    rw [← hnn] at HX1 HX3 HM HTI HE HR hn ⊢
    have HX3' : Hid (RDS w2 eInt (.slice P3 (n + 1) C3) (tabL (M 2) (n + 1))) := hide (by have := HX3.out; simpa [tabL] using this)
    have HX1' : Hid (RDS w2 eInt (.slice P1 (n + 1) C1) (tabL (M 0) (n + 1))) := hide (by have := HX1.out; simpa [tabL] using this)
    have HTM : Hid (TopsIn (M 2) n) := hide (fun i j h1 h2 => by
      obtain ⟨r, a1, a2, a3⟩ := HTI.out i j h1 h2
      exact ⟨r, a1, a2, by rw [(HM.out i j (by omega) h2).2 h1]; exact a3⟩)
    have HSP : Hid (spB (M 2) n 0 n 0 = spB (bt h g) n 0 n 0) := hide (spB_congr HTI.out (fun i j h1 h2 => (HM.out i j (by omega) h2).2 h1) n 0 n 0 (by omega) (Nat.le_refl _))
    have HC0 : Hid (M 0 0 n = bc h g 0 n) := hide (HM.out 0 n (by omega) (Nat.le_refl _)).1
    obtain ⟨Wx, hWx⟩ : ∃ Wx, Wx = w2.alloc (.cells #[.slice P1 (n + 1) C1, .slice P2 N2 C2, .slice P3 (n + 1) C3] 56) := ⟨_, rfl⟩
    have hsz : w2.heap.size + 1 = Wx.heap.size := by rw [hWx]; simp
    have hbx : BC Wx w2.heap.size 56 [.slice P1 (n + 1) C1, .slice P2 N2 C2, .slice P3 (n + 1) C3] := by rw [hWx]; exact BC.new w2 _ [_, _, _]
    have hkx : Kp w2 Wx := by rw [hWx]; exact (Kp.refl _).alloc
    rw [← hWx, hsz]
    have HOB := hide (OB.new (st := 23) (e := 47) (E := ePair) Wx (Nat.le_refl _))
    have HKX := hide hkx
    have HBX := hide (hbx.kp (Kp.refl Wx).alloc (w' := Wx.alloc (.cells #[.slice none 0 0] 23)))
    have HSZ := hide hkx.size
    have HN := hide hnn
    clear hWx hsz hbx hkx hnn HX1 HX3
    refine (spotsB_any (M 2) n hn HTM.out P1 P2 P3 _ C1 N2 C2 _ C3 Wx.heap.size Wx.heap.size (Nat.le_refl _) w2 HSZ.out HX3'.out n 0 n 0 [] (Wx.alloc (.cells #[.slice none 0 0] 23)) (by omega) (by omega) (Nat.le_refl _) (by simp; omega) (by omega) (by omega) HKX.out.alloc HOB.out (by simp)).mono ?_
    rintro e w5 ⟨rfl, ho5, hk5⟩
    have HK5 := hide (HOB.out.kp0 hk5 HKX.out.alloc HSZ.out (Nat.le_refl _))
    have hb5 := HBX.out.ko HOB.out hk5 (by decide) (by decide)
    have y0 := hb5.cell 0
    obtain ⟨u5, hb6, hu6, _⟩ := ho5
    obtain ⟨A5, N5, C5, rfl⟩ := hu6.rd.slice
    have g0 := hb6.cell 0
    have HU5 := hide hu6.rd
    obtain ⟨bq, oq, bq', oq', Cq, hA, _, z0, z1⟩ := tab_at (HX1'.out.kp HK5.out) (i := 0) (j := n) (by omega) (by omega)
    subst hA
    rw [HC0.out] at z1
    obtain ⟨cst, hcst⟩ : ∃ cst, cst = bc h g 0 n := ⟨_, rfl⟩
    rw [← hcst] at z1
    simp only [List.getElem?_cons_zero, Nat.add_zero] at y0 g0 z0
    have hn1 : (n : Int) < ((n + 1 : Nat) : Int) := by omega
    have hn2 : n < n + 1 := by omega
    have HCS := hide hcst
    clear hk5 hb5 hb6 hu6 hcst
    go_wp2_with fail
    go_quiet (fail)
    go_wp2
    go_ret3
    exact ⟨_, by rw [HE.out]; simp only; rw [← HCS.out]; rfl, by rw [HE.out]; simp only; rw [← HSP.out]; exact HU5.out.drewN _, K2.trans HK5.out.drewN⟩
  · have HE := hide (show trB hits gaps = _ from if_neg he)
    obtain ⟨er, her⟩ : ∃ er, er = brR hits gaps := ⟨_, rfl⟩
    rw [← her] at HRI HE he
    have d1 : (er != 0) = true := by simpa using he
    clear he her
    go_enter Try.func8, Try.ntmps8
    go_wp2_with fail
    with_reducible refine HRI.out.mono ?_
    rintro e w1 ⟨rfl, hb1⟩
    have kk1 : Kp w w1 := Kp.of hb1
    clear hb1
    go_wp2
    go_ret3
    exact ⟨_, by rw [HE.out]; rfl, by rw [HE.out]; exact RD.nil, kk1⟩
end Go.Proofs.Ytpmhpogkpkhbfaa
