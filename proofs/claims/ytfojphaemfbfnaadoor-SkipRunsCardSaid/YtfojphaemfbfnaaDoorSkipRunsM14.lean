/-
  plain.told, plain.put: what they answer. Conditions: of each contract.
  slices.Clone at pairs and spots: what it answers. Conditions: the list reads as l (RD).
-/
import Derived.Test.YtfojphaemfbfnaaDoorSkipRunsM3
import Derived.Test.YtfojphaemfbfnaaDoorSkipRunsM9
import Derived.Test.YtfojphaemfbfnaaDoorSkipRunsM11
import Derived.Test.YtfojphaemfbfnaaDoorSkipRunsM13
import Derived.Test.YtfojphaemfbfnaaDoorSkipRunsM10

namespace Go.Proofs.YtfojphaemfbfnaaDoor
open Go.ChangeShapes Go.WideShapes Go.ChangeAt Go.RowKit
set_option linter.unusedVariables false
set_option linter.unusedSimpArgs false

def toldL (l : List IP) (at_ : Int) : An := if h : 0 ≤ at_ ∧ at_ < l.length then ⟨0, (l[at_.toNat]'(by omega)).1, (l[at_.toNat]'(by omega)).2, true⟩ else ⟨0, 0, 0, false⟩
theorem toldL_no (l : List IP) (at_ : Int) (h : ¬ (0 ≤ at_ ∧ at_ < l.length)) : toldL l at_ = ⟨0, 0, 0, false⟩ := by rw [toldL, dif_neg h]
theorem toldL_at (l : List IP) (k : Nat) (h : k < l.length) : toldL l (k : Int) = ⟨0, l[k].1, l[k].2, true⟩ := by
  rw [toldL, dif_pos (by omega)]; rfl

set_option maxRecDepth 100000 in
set_option maxHeartbeats 1000000 in
theorem told_any (l : List IP) (v : Value) (at_ : Int) (w : World) (hr : RD w ePair v l) (hn : l.length ≤ 1000) : Calls Tryd.prog 62 #[v, .int .i64 at_] w (Ret (toldL l at_).v w) := by
  obtain ⟨A, c, rfl, hc, hm⟩ := hr.shape
  have HR := hide hr
  clear hr
  have hw : IntKind.i64.wrap ((l.length : Int) - 1) = (l.length : Int) - 1 := IntWalk.i64_in _ (by omega)
  by_cases hin : 0 ≤ at_ ∧ at_ < l.length
  · obtain ⟨k, rfl⟩ : ∃ k : Nat, at_ = k := ⟨at_.toNat, by omega⟩
    have hk : k < l.length := by omega
    have HT := hide (toldL_at l k hk)
    obtain ⟨b, o, rfl, _, c0, c1⟩ := HR.out.pair hk
    have hb : btw (k : Int) 0 ((l.length : Int) - 1) = true := (btw_iff _ _ _).2 (by omega)
    have b1 : (k : Int) < (l.length : Int) := by omega
    have b0 : (0 : Int) ≤ (k : Int) := by omega
    have d0 : (w.alloc (.cells #[.int .i64 0, .int .i64 0, .int .i64 0, .bool false] 50)).cell? ⟨b, o + k * 2, none⟩ = some (.int .i64 l[k].1) := (Kp.refl w).alloc.cell c0
    have HB := hide hb
    clear hin hb
    go_enter Tryd.func62, Tryd.ntmps62
    go_wp2_with (go_at_call 58; refine (within_to _ _ _ true _ HB.out).mono ?_; rintro e w' ⟨rfl, rfl⟩)
    go_region_held3 (fun w' => w'.cell? ⟨b, o + k * 2, none⟩ = some (.int .i64 l[k].1) ∧ w'.cell? ⟨b, o + k * 2 + 1, none⟩ = some (.int .i64 l[k].2))
      (first | go_keep | fail)
      (fail)
    go_wp2
    refine bodyPost_ret (v := (⟨0, l[k].1, l[k].2, true⟩ : An).v) (by simp [results, Tryd.results62, go_sem, An.v]) rfl ⟨by rw [HT.out], ?_⟩
    exact Kp.bel (by (focus ((repeat (first | (with_reducible assumption) | (with_reducible exact Kp.refl _) | (with_reducible apply Kp.drew) | (with_reducible apply Kp.drewN) | ((with_reducible apply Kp.setR); (focus (first | (with_reducible assumption) | (simp; done) | (simp; omega)))) | (with_reducible apply Kp.alloc) | ((with_reducible apply Kp.call); (with_reducible assumption)) | ((with_reducible apply Kp.app); (with_reducible assumption)))); done)))
  · have HT := hide (toldL_no l at_ hin)
    have hb : btw at_ 0 ((l.length : Int) - 1) = false := (btw_f_iff _ _ _).2 (by omega)
    have HB := hide hb
    clear hin hb
    go_enter Tryd.func62, Tryd.ntmps62
    go_wp2_with (go_at_call 58; refine (within_to _ _ _ false _ HB.out).mono ?_; rintro e w' ⟨rfl, rfl⟩)
    refine bodyPost_ret (v := (⟨0, 0, 0, false⟩ : An).v) (by simp [results, Tryd.results62, go_sem, An.v]) rfl ⟨by rw [HT.out], ?_⟩
    exact Kp.bel (by (focus ((repeat (first | (with_reducible assumption) | (with_reducible exact Kp.refl _) | (with_reducible apply Kp.drew) | (with_reducible apply Kp.drewN) | ((with_reducible apply Kp.setR); (focus (first | (with_reducible assumption) | (simp; done) | (simp; omega)))) | (with_reducible apply Kp.alloc) | ((with_reducible apply Kp.call); (with_reducible assumption)) | ((with_reducible apply Kp.app); (with_reducible assumption)))); done)))
def putL (l : List IP) (key val : Int) : List IP × An :=
  if hasKey l key then (l.set (below l key) (key, val), ⟨0, 0, 0, true⟩)
  else if l.length = 200 then (l, ⟨2, 0, 0, false⟩)
  else (l.take (below l key) ++ [(key, val)] ++ l.drop (below l key), ⟨0, 0, 0, false⟩)
def PutPost (w0 : World) (r : List IP × An) (e : Ending) (w' : World) : Prop := ∃ v', e = .returned (.tuple #[v', r.2.v]) ∧ OW w' w0.heap.size 73 ePair v' r.1 ∧ Kp w0 w'

set_option maxRecDepth 100000 in
set_option maxHeartbeats 4000000 in
theorem put_any (l : List IP) (key val : Int) (v : Value) (w0 w : World) (ho : OW w w0.heap.size 73 ePair v l) (hk0 : Kp w0 w) (hs : Rise l) (hn : l.length ≤ 200) :
    Calls Tryd.prog 60 #[v, .agg #[.int .i64 key, .int .i64 val]] w (PutPost w0 (putL l key val)) := by
  have hble := below_le l key
  have HSZ := hk0.size
  have HF := hide (fun W v h => find_any l v key W h (by omega) hs)
  obtain ⟨A, c, rfl, hc, hm⟩ := ho.rd.shape
  have hhi := ho.hi
  have HO := hide ho
  have HS := hide hs
  obtain ⟨W1, hW1⟩ : ∃ W1, W1 = (w.alloc (.cells #[.int .i64 key, .int .i64 val] 73)).alloc (.cells #[.int .i64 0, .int .i64 0, .int .i64 0, .bool false] 50) := ⟨_, rfl⟩
  have hk1 : Kp w W1 := by rw [hW1]; exact (Kp.refl w).alloc.alloc
  have hz1 : W1.heap.size = w.heap.size + 2 := by rw [hW1]; simp
  have q0 : W1.cell? ⟨w.heap.size, 0, none⟩ = some (.int .i64 key) := by rw [hW1]; simp [go_sem]
  have q1 : W1.cell? ⟨w.heap.size, 1, none⟩ = some (.int .i64 val) := by rw [hW1]; simp [go_sem]
  have r0 : W1.cell? ⟨w.heap.size + 1, 0, none⟩ = some (.int .i64 0) := by rw [hW1]; simp [go_sem]
  have r1 : W1.cell? ⟨w.heap.size + 1, 1, none⟩ = some (.int .i64 0) := by rw [hW1]; simp [go_sem]
  have r2 : W1.cell? ⟨w.heap.size + 1, 2, none⟩ = some (.int .i64 0) := by rw [hW1]; simp [go_sem]
  have r3 : W1.cell? ⟨w.heap.size + 1, 3, none⟩ = some (.bool false) := by rw [hW1]; simp [go_sem]
  have g0 : ∀ j, W1.frozen? ⟨w.heap.size + 1, j, none⟩ = false := fun j => by rw [hW1]; simp [go_sem]
  have HK1 := hide hk1
  have HQ0 := hide q0
  have HQ1 := hide q1
  have HR0 := hide r0
  have HR1 := hide r1
  have HR2 := hide r2
  have HR3 := hide r3
  have HG0 := hide g0
  have HZ1 := hide hz1
  have HK0 := hide hk0
  have HW1 := hide hW1
  have HHI := hide hhi
  clear ho hs hk1 q0 q1 r0 r1 r2 r3 g0 hz1 hk0 hhi hW1
  obtain ⟨b, hbe⟩ : ∃ b, b = below l key := ⟨_, rfl⟩
  cases hh : hasKey l key with
  | true =>
    obtain ⟨hbl, hbk⟩ : ∃ hb : b < l.length, l[b].1 = key := by rw [hbe]; exact (hasKey_iff l HS.out key).1 hh
    have HP : Hid (putL l key val = (l.set b (key, val), ⟨0, 0, 0, true⟩)) := hide (by rw [putL, hh, if_pos rfl, hbe])
    rw [hh, ← hbe] at HF
    obtain ⟨g, c', hv, hg0, hgw, _, _⟩ := HO.out.shape (by omega)
    injection hv with e1 e2 e3
    subst e1
    subst e3
    have HBK := hide hbk
    have bb : (b : Int) < (l.length : Int) := by omega
    have b0 : (0 : Int) ≤ (b : Int) := by omega
    have n1 : ¬ g = w.heap.size + 1 := by omega
    have n2 : ¬ w.heap.size + 1 = g := by omega
    clear hbe hh hbk
    go_enter Tryd.func60, Tryd.ntmps60
    go_wp2_with fail
    refine (HF.out _ _ ((HO.out.rd.alloc _).alloc _)).mono ?_
    rintro e w2 ⟨rfl, hb2⟩
    have hk2 : Kp W1 w2 := by rw [HW1.out]; exact hb2
    have hk20 := HK1.out.trans hk2
    have q0 := hk2.cell HQ0.out
    have q1 := hk2.cell HQ1.out
    have r0 := hk2.cell HR0.out
    have r1 := hk2.cell HR1.out
    have r2 := hk2.cell HR2.out
    have r3 := hk2.cell HR3.out
    have hz1 := HZ1.out
    have f0 := (hk2.frozen (p := ⟨w.heap.size + 1, 0, none⟩) (by simp; omega)).trans (HG0.out 0)
    have f1 := (hk2.frozen (p := ⟨w.heap.size + 1, 1, none⟩) (by simp; omega)).trans (HG0.out 1)
    have f2 := (hk2.frozen (p := ⟨w.heap.size + 1, 2, none⟩) (by simp; omega)).trans (HG0.out 2)
    have f3 := (hk2.frozen (p := ⟨w.heap.size + 1, 3, none⟩) (by simp; omega)).trans (HG0.out 3)
    have HO2 := hide (HO.out.kp hk20)
    obtain ⟨y1, fy⟩ : w2.cell? ⟨g, b * 2 + 1, none⟩ = some (.int .i64 l[b].2) ∧ w2.frozen? ⟨g, b * 2 + 1, none⟩ = false := HO2.out.cellPair b (by omega)
    have HZ := hide hz1
    clear hb2 hz1
    go_wp2
    refine bodyPost_ret (v := .tuple #[.slice (some ⟨g, 0, none⟩) l.length c, (⟨0, 0, 0, true⟩ : An).v]) (by simp [results, Tryd.results60, go_sem, An.v, r0, r1, r2, r3, n1, n2, y1, World.cell?_setCell_far]) rfl ⟨_, by rw [HP.out], ?_, ?_⟩
    · rw [HP.out, ← HBK.out]
      have hne : (Value.slice (some ⟨g, 0, none⟩) l.length c).ownBlock ≠ some (w.heap.size + 1) := fun h => n1 (by injection h)
      exact ((((HO2.out.setVal b hbl val).setCell hne _).setCell hne _).setCell hne _).setCell hne _
    · exact Kp.setR (by simp; omega) (Kp.setR (by simp; omega) (Kp.setR (by simp; omega) (Kp.setR (by simp; omega) (Kp.setR (by simp; omega) (HK0.out.trans hk20)))))
  | false =>
    rw [hh, ← hbe] at HF
    rw [← hbe] at hble
    by_cases h200 : l.length = 200
    · have HP : Hid (putL l key val = (l, ⟨2, 0, 0, false⟩)) := hide (by rw [putL, hh, if_neg (by simp), if_pos h200])
      have H2 := hide h200
      have t200 : ((l.length : Int) == 200) = true := by simp [h200]
      clear hbe hh h200
      go_enter Tryd.func60, Tryd.ntmps60
      go_wp2_with fail
      refine (HF.out _ _ ((HO.out.rd.alloc _).alloc _)).mono ?_
      rintro e w2 ⟨rfl, hb2⟩
      have hk2 : Kp W1 w2 := by rw [HW1.out]; exact hb2
      have hk20 := HK1.out.trans hk2
      have r0 := hk2.cell HR0.out
      have r1 := hk2.cell HR1.out
      have r2 := hk2.cell HR2.out
      have r3 := hk2.cell HR3.out
      have hz1 := HZ1.out
      have f0 := (hk2.frozen (p := ⟨w.heap.size + 1, 0, none⟩) (by simp; omega)).trans (HG0.out 0)
      have f1 := (hk2.frozen (p := ⟨w.heap.size + 1, 1, none⟩) (by simp; omega)).trans (HG0.out 1)
      have f2 := (hk2.frozen (p := ⟨w.heap.size + 1, 2, none⟩) (by simp; omega)).trans (HG0.out 2)
      have f3 := (hk2.frozen (p := ⟨w.heap.size + 1, 3, none⟩) (by simp; omega)).trans (HG0.out 3)
      have HO2 := hide (HO.out.kp hk20)
      have HLO : Hid ((Value.slice A l.length c).ownBlock ≠ some (w.heap.size + 1)) := hide (fun h => by
        have := HO.out.lt _ h; omega)
      have HZ := hide hz1
      clear hb2 hz1
      go_wp2
      refine bodyPost_ret (v := .tuple #[.slice A l.length c, (⟨2, 0, 0, false⟩ : An).v]) (by simp [results, Tryd.results60, go_sem, An.v, r0, r1, r2, r3]) rfl ⟨_, by rw [HP.out], ?_, ?_⟩
      · rw [HP.out]
        exact (((HO2.out.setCell HLO.out _).setCell HLO.out _).setCell HLO.out _).setCell HLO.out _
      · exact Kp.setR (by simp; omega) (Kp.setR (by simp; omega) (Kp.setR (by simp; omega) (Kp.setR (by simp; omega) (HK0.out.trans hk20))))
    · have HP : Hid (putL l key val = (l.take b ++ [(key, val)] ++ l.drop b, ⟨0, 0, 0, false⟩)) := hide (by rw [putL, hh, if_neg (by simp), if_neg h200, hbe])
      have t200 : ((l.length : Int) == 200) = false := by simp; omega
      clear hbe hh h200
      go_enter Tryd.func60, Tryd.ntmps60
      go_wp2_with fail
      refine (HF.out _ _ ((HO.out.rd.alloc _).alloc _)).mono ?_
      rintro e w2 ⟨rfl, hb2⟩
      have hk2 : Kp W1 w2 := by rw [HW1.out]; exact hb2
      have hk20 := HK1.out.trans hk2
      have q0 := hk2.cell HQ0.out
      have q1 := hk2.cell HQ1.out
      have hz1 := HZ1.out
      have hz2 := hk2.size
      have HO2 := hide (HO.out.kp hk20)
      have HLO : Hid ((Value.slice A l.length c).ownBlock ≠ some (w.heap.size + 1)) := hide (fun h => by
        have := HO.out.lt _ h; omega)
      have HLO2 : Hid ((Value.slice A l.length c).ownBlock ≠ some w2.heap.size) := hide (fun h => by
        have := HO.out.lt _ h; omega)
      have hsz : w.heap.size + 2 ≤ w2.heap.size := by omega
      have HZ := hide hz1
      clear hb2 hz1 hz2
      go_wp2_with fail
      refine (insertPair_any l (key, val) b (.slice A l.length c) w2.heap.size w0.heap.size _ (HO2.out.alloc _) (heap_alloc_new w2 _) HLO2.out hble (by omega) (by simp; omega)).mono ?_
      rintro e w3 ⟨v3, rfl, ho3, hg3, hat3⟩
      have hw3 : w2.heap.size + 1 ≤ w3.heap.size := by have := hg3.size; simpa using this
      have ka : Kp W1 (w2.alloc (.cells #[.int .i64 key, .int .i64 val] 73)) := hk2.alloc
      have hne1 : ∀ j, some (⟨w.heap.size + 1, j, none⟩ : Addr).block ≠ (Value.slice A l.length c).ownBlock := fun j e => HLO.out e.symm
      have r0 := hg3.cell (ka.cell HR0.out) (hne1 0)
      have r1 := hg3.cell (ka.cell HR1.out) (hne1 1)
      have r2 := hg3.cell (ka.cell HR2.out) (hne1 2)
      have r3 := hg3.cell (ka.cell HR3.out) (hne1 3)
      have hz1 := HZ.out
      have f0 := ((hg3.frozen_far ⟨w.heap.size + 1, 0, none⟩ (by simp; omega) (hne1 0)).trans (ka.frozen (p := ⟨w.heap.size + 1, 0, none⟩) (by simp; omega))).trans (HG0.out 0)
      have f1 := ((hg3.frozen_far ⟨w.heap.size + 1, 1, none⟩ (by simp; omega) (hne1 1)).trans (ka.frozen (p := ⟨w.heap.size + 1, 1, none⟩) (by simp; omega))).trans (HG0.out 1)
      have f2 := ((hg3.frozen_far ⟨w.heap.size + 1, 2, none⟩ (by simp; omega) (hne1 2)).trans (ka.frozen (p := ⟨w.heap.size + 1, 2, none⟩) (by simp; omega))).trans (HG0.out 2)
      have f3 := ((hg3.frozen_far ⟨w.heap.size + 1, 3, none⟩ (by simp; omega) (hne1 3)).trans (ka.frozen (p := ⟨w.heap.size + 1, 3, none⟩) (by simp; omega))).trans (HG0.out 3)
      have HLO3 : Hid (v3.ownBlock ≠ some (w.heap.size + 1)) := hide (fun h => by
        rcases hat3 with h3 | ⟨k, h3, h4⟩
        · exact HLO.out (h3.symm.trans h)
        · rw [h] at h3
          injection h3 with h3
          simp at h4
          omega)
      have HO3 := hide ho3
      have HK3 : Hid (Kp w0 w3) := hide (Kp.app hg3 ((HK0.out.trans hk20).alloc) HHI.out)
      clear ho3 hg3 hat3 hne1 hz1
      go_wp2
      refine bodyPost_ret (v := .tuple #[v3, (⟨0, 0, 0, false⟩ : An).v]) (by simp [results, Tryd.results60, go_sem, An.v, r0, r1, r2, r3]) rfl ⟨_, by rw [HP.out], ?_, ?_⟩
      · rw [HP.out]
        exact (((HO3.out.setCell HLO3.out _).setCell HLO3.out _).setCell HLO3.out _).setCell HLO3.out _
      · exact Kp.setR (by simp; omega) (Kp.setR (by simp; omega) (Kp.setR (by simp; omega) (Kp.setR (by simp; omega) HK3.out)))
end Go.Proofs.YtfojphaemfbfnaaDoor
namespace Go.Proofs.YtfojphaemfbfnaaDoor
open Go.ChangeShapes Go.WideShapes Go.ChangeAt Go.RowKit
set_option linter.unusedVariables false
set_option linter.unusedSimpArgs false

set_option maxHeartbeats 400000 in
theorem clonePairs_any (l : List IP) (v : Value) (w : World) (hr : RD w ePair v l) (hn : l.length ≤ 1000000) : Calls Tryd.prog 57 #[v] w (RetOW 73 ePair l w) := by
  obtain ⟨A, c, rfl, hc, hm, hA, h3⟩ := id hr
  have he := fun W => Lib.run_eql_slice_nil (P := Tryd.prog) W 44 73 A l.length c 0 0 Tryd.underlying44
  have HR := hide hr
  clear hr h3
  cases A with
  | none =>
    have hc0 : c = 0 := hA rfl
    have hl : l = [] := List.eq_nil_of_length_eq_zero (by omega)
    subst hl
    subst hc0
    clear hA
    simp only [List.length_nil] at he ⊢
    go_enter Tryd.func57, Tryd.ntmps57
    go_wp2
    go_ret
    exact ⟨_, rfl, OW.nil, Below.refl _ _⟩
  | some a =>
    have HM1 : Hid ((([] : List IP).length + l.length) * 16 ≤ 140737488355328) := hide (by simp; omega)
    have HM2 : Hid (([] : List IP).length + l.length ≤ maxLen) := hide (by simp [maxLen]; omega)
    have HE : Hid (OW (w.alloc (.cells #[] 73)) w.heap.size 73 ePair (.slice (some ⟨w.heap.size, 0, none⟩) 0 0) ([] : List IP)) := hide (OW.empty (Nat.le_refl _))
    have HHI : Hi w.heap.size (.slice (some ⟨w.heap.size, 0, none⟩) 0 0) := fun k hk => by simp [Value.ownBlock] at hk; omega
    clear hA
    go_enter Tryd.func57, Tryd.ntmps57
    go_wp2_with (at_builtin; (with_reducible refine list_app (B := w.heap.size) (l := ([] : List IP)) (m := l) row_pair (.slice (some ⟨w.heap.size, 0, none⟩) 0 0) ?_ (.tmp 5) (.tmp 6) ?_ ?_ ?_ ?_ HM1.out HM2.out ?_ ?_); (with_reducible rfl); (with_reducible rfl); rfl; (exact HE.out); (show RD _ _ (.slice (some a) l.length c) _; exact HR.out.alloc _); (simp); intro v3 w3 ho3 hg3 hat3)
    go_ret
    exact ⟨_, rfl, ho3, (Kp.app hg3 (Kp.refl w).alloc HHI).bel⟩
end Go.Proofs.YtfojphaemfbfnaaDoor
