/-
  hedgref.Asked: what it answers. Conditions: a tree that is read (TR), of the keys from a on; the lists read as ints (RD), each from 0 to 1000.
-/
import Derived.Test.YtpmhpogkpkhbfaaAskL
namespace Go.Proofs.Ytpmhpogkpkhbfaa
open Go.ChangeShapes Go.WideShapes Go.ChangeAt Go.RowKit
set_option linter.unusedVariables false
set_option linter.unusedSimpArgs false

def Rg : T → Nat → Nat → Prop
  | .nil, a, b => a = b
  | .node k l r, a, b => ∃ m : Nat, k = (m : Int) ∧ Rg l a m ∧ Rg r (m + 1) b
theorem Dp.rg {D : Nat → Int} : ∀ {t : T} {a b : Nat} {d : Int}, Dp D t a b d → Rg t a b
  | .nil, _, _, _, h => h
  | .node k l r, a, b, d, ⟨m, h1, _, h2, h3⟩ => ⟨m, h1, h2.rg, h3.rg⟩
theorem Rg.le : ∀ {t : T} {a b : Nat}, Rg t a b → b = a + t.size
  | .nil, a, b, h => by have : a = b := h; simp [T.size]; omega
  | .node k l r, a, b, ⟨m, _, h1, h2⟩ => by
    have := h1.le; have := h2.le; simp only [T.size]; omega
def Drew2 (v : Value) (w : World) (e : Ending) (w' : World) : Prop := e = .returned v ∧ ∃ n, w' = w.drewN n
set_option maxRecDepth 100000 in
set_option maxHeartbeats 8000000 in
theorem asked_any (hits gaps : List Int) (hbh : ∀ x ∈ hits, 0 ≤ x ∧ x ≤ 1000) (hbg : ∀ x ∈ gaps, 0 ≤ x ∧ x ≤ 1000) (hgl : gaps.length = hits.length + 1) (v u : Value) : ∀ (t : T) (a b : Nat) (d : Int) (p : Option Addr) (w : World), Rg t a b → b ≤ hits.length → 0 ≤ d → d + t.size ≤ 999 →
    RD w eInt v hits → RD w eInt u gaps → TR w t p → Calls Try.prog 22 #[.pointer p, v, u, .int .i64 (a : Int), .int .i64 d] w (Drew2 (.int .i64 (askF (gD hits) (gD gaps) t a d)) w)
  | .nil, a, b, d, p, w, hr, hb, h0, h1, hv, hu, ht => by
    have ht' : p = none := ht
    subst ht'
    have hr' : a = b := hr
    subst hr'
    obtain ⟨A1, c1, rfl, _, _⟩ := hv.shape
    obtain ⟨A2, c2, rfl, _, _⟩ := hu.shape
    have hag : a < gaps.length := by omega
    obtain ⟨bu, ou, rfl, _, c3⟩ := hu.int hag
    rw [gD_at hag] at c3
    have hm := mul_in (gD_in hbg a).1 (gD_in hbg a).2 h0 (show d ≤ 1000 by simp [T.size] at h1; omega)
    have HE : Hid (askF (gD hits) (gD gaps) .nil a d = gD gaps a * d) := hide rfl
    obtain ⟨X, hX⟩ : ∃ x, x = gD gaps a := ⟨_, rfl⟩
    rw [← hX] at c3 hm HE
    have s1 : IntKind.i64.wrap (X * d) = X * d := IntWalk.i64_in _ (by omega)
    clear hX hm hgl hr hv hu ht
    go_enter Try.func22, Try.ntmps22
    go_wp2
    go_ret
    exact ⟨by rw [HE.out]; rfl, 0, rfl⟩
  | .node k l r, a, b, d, p, w, hr, hb, h0, h1, hv, hu, ht => by
    obtain ⟨m, hk, hrl, hrr⟩ := hr
    subst hk
    obtain ⟨bb, pl, pr, rfl, hbb, c0, c1, c2, htl, htr⟩ := ht
    simp only [T.size] at h1
    have e1 := hrl.le
    have e2 := hrr.le
    obtain ⟨m1, hm1⟩ : ∃ m1, m1 = m + 1 := ⟨_, rfl⟩
    rw [← hm1] at hrr
    have IHL := hide (fun n => asked_any hits gaps hbh hbg hgl v u l a m (d + 1) pl (w.drewN n) hrl (by omega) (by omega) (by omega) (hv.kp (Kp.refl w).drewN) (hu.kp (Kp.refl w).drewN) (htl.kp (Kp.refl w).drewN))
    have IHR := hide (fun n => asked_any hits gaps hbh hbg hgl v u r m1 b (d + 1) pr (w.drewN n) hrr (by omega) (by omega) (by omega) (hv.kp (Kp.refl w).drewN) (hu.kp (Kp.refl w).drewN) (htr.kp (Kp.refl w).drewN))
    have q1 := askF_in (fun k => gD_in hbh k) (fun k => gD_in hbg k) l a (d + 1) (by omega) (by omega)
    have q2 := askF_in (fun k => gD_in hbh k) (fun k => gD_in hbg k) r m1 (d + 1) (by omega) (by omega)
    have q3 := mul_in (gD_in hbh m).1 (gD_in hbh m).2 (show 0 ≤ d + 1 by omega) (show d + 1 ≤ 1000 by omega)
    obtain ⟨A1, c8, rfl, _, _⟩ := hv.shape
    obtain ⟨A2, c9, rfl, _, _⟩ := hu.shape
    have hmh : m < hits.length := by omega
    obtain ⟨bv, ov, rfl, _, c3⟩ := hv.int hmh
    rw [gD_at hmh] at c3
    have HE : Hid (askF (gD hits) (gD gaps) (.node (m : Int) l r) a d = gD hits m * (d + 1) + askF (gD hits) (gD gaps) l a (d + 1) + askF (gD hits) (gD gaps) r m1 (d + 1)) := hide (by rw [askF, Int.toNat_natCast, hm1])
    obtain ⟨X, hX⟩ : ∃ x, x = gD hits m := ⟨_, rfl⟩
    obtain ⟨Y, hY⟩ : ∃ x, x = askF (gD hits) (gD gaps) l a (d + 1) := ⟨_, rfl⟩
    obtain ⟨Z, hZ⟩ : ∃ x, x = askF (gD hits) (gD gaps) r m1 (d + 1) := ⟨_, rfl⟩
    obtain ⟨d1, hd1⟩ : ∃ x, x = d + 1 := ⟨_, rfl⟩
    rw [← hX] at c3 q3 HE
    rw [← hY] at q1 HE IHL
    rw [← hZ] at q2 HE IHR
    rw [← hd1] at q3 HE IHL IHR
    have s0 : IntKind.i64.wrap (d + 1) = d1 := by rw [IntWalk.i64_in _ (by omega)]; omega
    obtain ⟨M, hM⟩ : ∃ x, x = X * d1 := ⟨_, rfl⟩
    rw [← hM] at q3 HE
    have s1 : IntKind.i64.wrap (X * d1) = M := by rw [IntWalk.i64_in _ (by rw [← hM]; omega)]; exact hM.symm
    have s2 : IntKind.i64.wrap (M + Y) = M + Y := IntWalk.i64_in _ (by omega)
    have s3 : IntKind.i64.wrap (M + Y + Z) = M + Y + Z := IntWalk.i64_in _ (by omega)
    have s4 : IntKind.i64.wrap ((m : Int) + 1) = (m1 : Int) := by rw [IntWalk.i64_in _ (by omega)]; omega
    clear hX hY hZ hd1 hM q1 q2 q3 e1 e2 hm1 hrl hrr hv hu htl htr hgl
    go_enter Try.func22, Try.ntmps22
    go_wp2_with fail
    go_quiet ((first | (go_at_call_of 22 (Value.pointer pl); exact Calls.quiet_of (IHL.out _)) | (go_at_call_of 22 (Value.pointer pr); exact Calls.quiet_of (IHR.out _))))
    go_wp2
    go_ret
    exact ⟨by rw [HE.out]; rfl, _, rfl⟩
end Go.Proofs.Ytpmhpogkpkhbfaa
