/-
  vine.Vine: what it answers. Conditions: the list reads as l (RD).
-/
import Derived.Test.YtnpogfodopodoaaVStr
import Derived.Test.YtnpogfodopodoaaVReadW
namespace Go.Proofs.Ytnpogfodopodoaa
open Go.ChangeShapes Go.WideShapes Go.ChangeAt Go.RowKit
set_option linter.unusedVariables false
set_option linter.unusedSimpArgs false

theorem OB.kn {α : Type} {w w' : World} {B g : Nat} {st e nt pt : TypeId} {E : Enc α} {l : List α} (h : OB w B g st e E l) (hk : KN nt pt w w') (h1 : st ≠ nt ∧ st ≠ pt) (h2 : e ≠ nt ∧ e ≠ pt) : OB w' B g st e E l := by
  obtain ⟨v, hb, ho, hn⟩ := h
  refine ⟨v, hb.kf hk ?_, ho.kf hk ?_, hn⟩
  · rintro ⟨t, cs, ht, hc⟩
    rcases ht with rfl | rfl
    · exact hb.ne hc h1.1 rfl
    · exact hb.ne hc h1.2 rfl
  · rintro k hk' ⟨t, cs, ht, hc⟩
    rcases ht with rfl | rfl
    · exact ho.bc_ne hc h2.1 hk'
    · exact ho.bc_ne hc h2.2 hk'
theorem KO.kt {α : Type} {w w' : World} {B g : Nat} {st e nt pt : TypeId} {E : Enc α} {l : List α} (hk : KO g B w w') (h : OB w B g st e E l) (h1 : st ≠ nt ∧ st ≠ pt) (h2 : e ≠ nt ∧ e ≠ pt) (hg : B ≤ g) : KT nt pt B w w' := by
  refine ⟨fun i cs t ht hc => ?_, fun a ha hka => h.kp0 hk hka ha hg⟩
  rcases ht with rfl | rfl
  · exact hc.ko h hk h1.1 h2.1
  · exact hc.ko h hk h1.2 h2.2
set_option maxRecDepth 100000 in
set_option maxHeartbeats 2000000 in
theorem vineTold_any (B g : Nat) (hg : B ≤ g) (ks : List Int) (key : Int) (w : World) (ho : OB w B g 23 3 eInt ks) (hB : B ≤ w.heap.size) (hl : ks.length ≤ 1000) :
    Calls Try.prog 25 #[.int .i64 key, .pointer (some ⟨g, 0, none⟩)] w (WPost B g 23 3 eInt (.tuple #[]) (ks ++ [key]) w) := by
  obtain ⟨u, hb, hu, hn⟩ := ho
  have KS : Hid (∀ W', KV u w W' → (W'.cell? ⟨g, 0, none⟩ = some u ∧ W'.frozen? ⟨g, 0, none⟩ = false ∧ KV u w W')) := hide fun W' h => ⟨h.cell hn (hb.cell 0), (h.frozen hb.lt hn).trans (hb.frozen 0), h⟩
  have HM1 : Hid ((ks.length + [key].length) * 8 ≤ 140737488355328) := hide (by simp; omega)
  have HM2 : Hid (ks.length + [key].length ≤ maxLen) := hide (by simp [maxLen]; omega)
  have g0 := hb.cell 0
  have f0 := hb.frozen 0
  have HB := hide hb
  have HU := hide hu
  have HBB := hide hB
  clear hb
  go_enter Try.func25, Try.ntmps25
  go_wp2_with ((at_builtin; (with_reducible refine list_app (B := B) (l := ks) (m := [key]) row_int u ?_ (.tmp 3) (.tmp 5) ?_ ?_ ?_ ?_ HM1.out HM2.out ?_ ?_)); (with_reducible rfl); (with_reducible rfl); rfl; (focus ((repeat (first | (with_reducible assumption) | (with_reducible apply OW.alloc) | (with_reducible apply OW.drew) | (with_reducible apply OW.drewN) | ((with_reducible apply OW.setCellR); (with_reducible assumption)) | ((with_reducible apply OW.belowR); (with_reducible assumption)) | ((with_reducible apply OW.keptR); (with_reducible assumption); (with_reducible assumption)))); done)); (show RD _ _ (.slice (some ⟨_, 0, none⟩) 1 1) _; (focus ((repeat (first | (with_reducible assumption) | exact RD.new1 _ rfl | (refine RD.new1e _ ?_ rfl; simp; done) | (with_reducible apply RD.alloc) | (with_reducible apply RD.drew) | (with_reducible apply RD.drewN) | ((with_reducible apply RD.belowR); (with_reducible assumption)))); done))); (simp; omega); intro v3 w3 ho3 hg3 hat3; obtain ⟨sc3, sf3, _⟩ := KS.out w3 (KV.app hg3 (KV.alloc (KV.refl u w))); obtain ⟨A3, N3, c3, rfl⟩ := ho3.rd.slice)
  have hat9 := hat3.imp id (fun e => show Hi w.heap.size (Value.slice A3 N3 c3) from fun k hk => by rw [e] at hk; injection hk with hk; subst hk; simp <;> omega)
  obtain ⟨ho4, hk4⟩ := ob_app HB.out HU.out hn (KV.app hg3 (KV.alloc (KV.refl u w))) ho3 hat9
  exact bodyPost_ret (v := .tuple #[]) (by simp [results, Try.results25, go_sem]) rfl ⟨rfl, ho4, hk4⟩
def vineOf (l : List IP) : List Int × Int := (toldT (vineT l), (parOf l).2)
theorem mtP_size (ks : List Int) : ∀ t : PT, (mtP ks t).size = t.size
  | .nil => rfl
  | .node p l r => by simp [mtP, MT.size, PT.size, mtP_size ks l, mtP_size ks r]
theorem vineT_size (l : List IP) : (vineT l).size ≤ 200 := by
  unfold vineT
  split
  · simp [MT.size]
  · rename_i h
    obtain ⟨hlen, hmr, t, hpt, hpo⟩ := parOf_len l (by simpa using h)
    obtain ⟨hta, hts, _⟩ := ptR_to l 0 l.length 0 t (by omega) hpt
    rw [hpt]
    simp only [mtP_size]
    omega
set_option maxRecDepth 100000 in
set_option maxHeartbeats 4000000 in
theorem vineVine_any (l : List IP) (v : Value) (w : World) (hr : RD w ePair v l) : Calls Try.prog 8 #[v] w (Ret2 eInt (vineOf l) w) := by
  have HRD := hide (vineRead_any l v w hr)
  have hts := vineT_size l
  clear hr
  by_cases h0 : (parOf l).2 = 0
  · have H1 : Hid (vineOf l = (toldT (vineT l), 0)) := hide (by rw [vineOf, h0])
    have b1 : ((0 : Int) != 0) = false := by decide
    unfold VRPost at HRD
    rw [h0] at HRD
    clear h0
    go_enter Try.func8, Try.ntmps8
    go_wp2_with fail
    with_reducible refine HRD.out.mono ?_
    rintro e w1 ⟨p, F, rfl, hm, hF, hk⟩
    have HK := hide hk
    have HF := hide hF
    have HM := hide hm
    have hzk := hk.size
    have HIN : Hid (OB ((w1.alloc (.cells #[.pointer p] 51)).alloc (.cells #[.slice none 0 0] 23)) (w1.heap.size + 1) (w1.heap.size + 1) 23 3 eInt []) := hide (by
      have h := OB.new (B := w1.heap.size + 1) (st := 23) (e := 3) (E := eInt) (w1.alloc (.cells #[.pointer p] 51)) (by simp)
      have e : (w1.alloc (.cells #[.pointer p] 51)).heap.size = w1.heap.size + 1 := by simp
      rwa [e] at h)
    have HR0 := hide ((BC.new w1 51 [.pointer p]).kp ((Kp.refl _).alloc (o := .cells #[.slice none 0 0] 23)))
    have hF1 : w1.heap.size ∉ F := fun h => by have := hm.lt _ h; omega
    have HST := hide (straight_vine (vineT l) w w1.heap.size (w1.heap.size + 1) p F (fun W ks => OB W (w1.heap.size + 1) (w1.heap.size + 1) 23 3 eInt ks) ((w1.alloc (.cells #[.pointer p] 51)).alloc (.cells #[.slice none 0 0] 23)) (by omega)
      (fun W ks key ho hB hlk => ((vineTold_any (w1.heap.size + 1) (w1.heap.size + 1) (Nat.le_refl _) ks key W ho (Nat.le_of_lt ho.lt) (by omega)).mono (fun e W' h => ⟨h.1, h.2.1, (h.2.2.kt ho (by decide) (by decide) (Nat.le_refl _)).1, fun a ha => (h.2.2.kt ho (nt := 72) (pt := 51) (by decide) (by decide) (Nat.le_refl _)).2 a (by omega)⟩)))
      (fun W W' ks ho hk => ho.kn hk (by decide) (by decide)) HR0.out ((hm.kp (Kp.refl w1).alloc).kp (Kp.refl _).alloc) hF1 hF hzk HIN.out (hk.alloc.alloc))
    clear hm hF hk
    go_wp2_with fail
    with_reducible refine HST.out.mono ?_
    rintro e w2 ⟨p2, F2, rfl, hr2, hm2, hrF2, hF2, ho2, hk2⟩
    obtain ⟨u, hb, hu, hn⟩ := ho2
    have g0 := hb.cell 0
    obtain ⟨A3, N3, c3, rfl⟩ := hu.rd.slice
    have HU := hide hu.rd
    have HK2 := hide hk2
    clear hr2 hm2 hF2 hb hu hn hk2
    go_wp2
    go_ret2
    exact ⟨_, by rw [H1.out]; rfl, by rw [H1.out]; exact HU.out, HK2.out.bel⟩
  · have hb : ((parOf l).2 != 0) = true := by simpa using h0
    have H1 : Hid (vineOf l = ([], (parOf l).2)) := hide (by rw [vineOf, vineT, if_pos h0]; rfl)
    clear h0
    go_enter Try.func8, Try.ntmps8
    go_wp2_with fail
    with_reducible refine HRD.out.mono ?_
    rintro e w1 ⟨p, F, rfl, hm, hF, hk⟩
    have HK := hide hk
    clear hm hF hk
    go_wp2
    go_ret2
    exact ⟨_, by rw [H1.out]; rfl, by rw [H1.out]; exact RD.nil, HK.out.alloc.bel⟩
end Go.Proofs.Ytnpogfodopodoaa
