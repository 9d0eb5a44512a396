/-
  goat.yard.anew: what it leaves
-/
import Derived.Test.YtcljlnagpjilaaaGreatDoorG23

set_option linter.unusedVariables false
set_option linter.unusedSimpArgs false
set_option maxRecDepth 100000
set_option maxHeartbeats 8000000
namespace Go.Proofs.YtcljlnagpjilaaaGreatDoor
open Go.ChangeShapes Go.WideShapes Go.ChangeAt Go.RowKit
def YPost (gy : Nat) (S : Gt) (w0 : World) (e : Ending) (w' : World) : Prop := e = .returned (.tuple #[]) /\ YR w' gy w0.heap.size S /\ Kp w0 w'
theorem yr_put {w w1 w0 : World} {gy : Nat} {T t t' : MT IP} {F Fc Ft Ft' : List Nat} {key : Int} {C : List (Fm IP)} {q : Addr} {p p' : Option Addr} {many most built : Nat}
  (ha : At_ w 256 eFst Prod.fst ⟨gy, 0, none⟩ T F key C q t p Fc Ft) (hy : gy ∉ F) (hF : ∀ x ∈ F, w0.heap.size <= x) (hFl : ∀ x ∈ F, x < w.heap.size) (hB : w0.heap.size <= gy) (hk0 : Kp w0 w)
  (hgl : gy < w.heap.size) (hf : ∀ j, w.frozen? ⟨gy, j, none⟩ = false) (hk : Kp w w1) (hm : MR w1 256 eFst t' p' Ft') (hn : ∀ x ∈ Ft', w.heap.size <= x)
  (c1 : w1.cell? ⟨gy, 1, none⟩ = some (.int .i64 (many : Int))) (c2 : w1.cell? ⟨gy, 2, none⟩ = some (.int .i64 (most : Int))) (c3 : w1.cell? ⟨gy, 3, none⟩ = some (.int .i64 (built : Int))) :
  YR (w1.setCell q (.pointer p')) gy w0.heap.size ⟨plug C t', many, most, built⟩ /\ Kp w0 (w1.setCell q (.pointer p')) := by
 have hfcl : ∀ x ∈ Fc, x ∈ F := fun x hx => ha.sub x (.inr hx)
 have hqb : q = ⟨gy, 0, none⟩ ∨ q.block ∈ F := ha.zp.at_.imp id (fun h => hfcl _ h)
 have hqj : ∀ j, 0 < j -> q ≠ ⟨gy, j, none⟩ := fun j hj e => by
  rcases hqb with h | h
  ·rw [h] at e
   injection e with _ e
   omega
  ·rw [e] at h; exact hy h
 have hql : q.block < w.heap.size := by
  rcases hqb with h | h
  ·rw [h]; exact hgl
  ·exact hFl _ h
 obtain ⟨p0, F0, g1, g2, g3, g4, g5⟩ := ha.put hy hk hgl (hf 0) hm (fun x hx hx' => by have := hn x hx; have := hFl x (hfcl x hx'); omega) (fun h => by have := hn _ h; omega) (fun x hx => .inr (hn x hx))
 have hk1 : Kp w0 (w1.setCell q (.pointer p')) := g5.kp hk0 fun i hi => by
  rcases hi with rfl | hi
  ·exact hB
  ·exact hF i hi
 have hz := hk0.size
 refine ⟨⟨⟨p0, F0, g1, g4, g2, fun h => ?_, fun x hx => ?_⟩, ?_, ?_, ?_, fun j => ?_, hB⟩, hk1⟩
 ·rcases g3 _ h with h | h
  ·exact hy h
  ·simp only at h; omega
 ·rcases g3 x hx with h | h
  ·exact hF x h
  ·omega
 ·rw [World.cell?_setCell_other _ _ _ _ (hqj 1 (by omega))]; exact c1
 ·rw [World.cell?_setCell_other _ _ _ _ (hqj 2 (by omega))]; exact c2
 ·rw [World.cell?_setCell_other _ _ _ _ (hqj 3 (by omega))]; exact c3
 ·rw [World.frozen?_setCell]; exact (hk.frozen hgl).trans (hf j)
theorem gtAnew_any {w w0 : World} {gy : Nat} {T t : MT IP} {F Fc Ft : List Nat} {key : Int} {C : List (Fm IP)} {q : Addr} {p : Option Addr} (many most built : Nat)
  (ha : At_ w 256 eFst Prod.fst ⟨gy, 0, none⟩ T F key C q t p Fc Ft) (hy : gy ∉ F) (hF : ∀ x ∈ F, w0.heap.size <= x) (hFl : ∀ x ∈ F, x < w.heap.size) (hB : w0.heap.size <= gy) (hk : Kp w0 w)
  (c1 : w.cell? ⟨gy, 1, none⟩ = some (.int .i64 (many : Int))) (c2 : w.cell? ⟨gy, 2, none⟩ = some (.int .i64 (most : Int))) (c3 : w.cell? ⟨gy, 3, none⟩ = some (.int .i64 (built : Int))) (hf : ∀ j, w.frozen? ⟨gy, j, none⟩ = false)
  (hs : t.size <= 100000) (hb : built + t.size <= 1000000000) :
  Calls Tryz.prog 179 #[.pointer (some ⟨gy, 0, none⟩), .pointer (some q)] w (YPost gy ⟨plug C (evenT (kM t)), many, most, built + t.size⟩ w0) := by
 have hgl : gy < w.heap.size := World.block_lt_of_cell? _ _ c1
 have cq := ha.cell
 have HKE := hide (gtKeys_any t p Ft w ha.mr (by omega))
 have HA := hide ha
 have HY := hide hy
 have HF := hide hF
 have HFL := hide hFl
 have HFZ := hide hf
 have HK := hide hk
 have HSZ := hide hs
 have HBD := hide hb
 have HGL := hide hgl
 have HBB := hide hB
 have HC1 := hide c1
 have HC2 := hide c2
 have HC3 := hide c3
 clear ha hy hF hFl hf hk hs hb hgl hB c1 c2 c3
 go_enter Tryz.func179, Tryz.ntmps179
 go_wp2_with fail
 with_reducible refine HKE.out.mono ?_
 rintro e w1 ⟨v1, rfl, ho1, hb1⟩
 have kk1 := Kp.of hb1
 obtain ⟨A1, a1, rfl, _, _⟩ := ho1.rd.shape
 have d3 : w1.cell? ⟨gy, 3, none⟩ = some (.int .i64 (built : Int)) := kk1.cell HC3.out
 have f3 : w1.frozen? ⟨gy, 3, none⟩ = false := (kk1.frozen HGL.out).trans (HFZ.out 3)
 have hw : IntKind.i64.wrap ((built : Int) + ((kM t).length : Int)) = ((built + (kM t).length : Nat) : Int) := by rw [IntWalk.i64_in _ (by rw [kM_len]; have := HBD.out; omega)]; omega
 have HKL : Hid ((kM t).length = t.size) := hide (kM_len t)
 have HO1 := hide ho1
 obtain ⟨nb, hnb⟩ : ∃ nb, nb = built + (kM t).length := ⟨_, rfl⟩
 rw [<- hnb] at hw
 have HNB := hide hnb
 clear ho1 hb1 cq hnb
 go_wp2_with fail
 obtain ⟨W2, hW2⟩ : ∃ W2, W2 = w1.setCell ⟨gy, 3, none⟩ (.int .i64 (nb : Int)) := ⟨_, rfl⟩
 rw [<- hW2]
 have hkf2 : Kf (fun i => i = gy) w1 W2 := by rw [hW2]; exact (Kf.refl _ _).set (.inl rfl)
 have hgl1 : gy < w1.heap.size := Nat.lt_of_lt_of_le HGL.out kk1.size
 have HRD : Hid (RD W2 eInt (.slice A1 (kM t).length a1) (kM t)) := hide (HO1.out.rd.kf hkf2 (fun _ k hk e => by have h1 := (HO1.out.lt k hk).1; have := HGL.out; subst e; omega))
 have hEV := gtEven_any (kM t).length (kM t) _ W2 (Nat.le_refl _) (by have := HSZ.out; have := HKL.out; omega) HRD.out
 have HA2 : Hid (At_ W2 256 eFst Prod.fst ⟨gy, 0, none⟩ T F key C q t p Fc Ft) := hide ((HA.out.kp kk1 HGL.out HFL.out).keep (by rw [hW2, World.cell?_setCell_other _ _ _ _ (by simp)]) (by rw [hW2, World.frozen?_setCell]) (fun i hi => hkf2.block (Nat.lt_of_lt_of_le (HFL.out i hi) kk1.size) (fun e => HY.out (e ▸ hi))))
 have HE1 : Hid (W2.cell? ⟨gy, 1, none⟩ = some (.int .i64 (many : Int))) := hide (by rw [hW2, World.cell?_setCell_other _ _ _ _ (by simp)]; exact kk1.cell HC1.out)
 have HE2 : Hid (W2.cell? ⟨gy, 2, none⟩ = some (.int .i64 (most : Int))) := hide (by rw [hW2, World.cell?_setCell_other _ _ _ _ (by simp)]; exact kk1.cell HC2.out)
 have HE3 : Hid (W2.cell? ⟨gy, 3, none⟩ = some (.int .i64 (nb : Int))) := hide (by rw [hW2]; exact World.cell?_setCell_same' w1 _ _ (by rw [d3]; rfl))
 have HZ2 : Hid (W2.heap.size = w1.heap.size) := hide (by rw [hW2]; simp [World.setCell])
 have HF2 : Hid (∀ j, W2.frozen? ⟨gy, j, none⟩ = false) := hide (fun j => by rw [hW2, World.frozen?_setCell]; exact (kk1.frozen HGL.out).trans (HFZ.out j))
 have HK2 : Hid (Kp w0 W2) := hide (hkf2.kp (HK.out.trans kk1) (fun i hi => by subst hi; exact HBB.out))
 have HEV := hide hEV
 have HK1 := hide kk1
 have HGL2 : Hid (gy < W2.heap.size) := hide (by rw [HZ2.out]; exact hgl1)
 have HFL2 : Hid (∀ x ∈ F, x < W2.heap.size) := hide (fun x hx => by rw [HZ2.out]; exact Nat.lt_of_lt_of_le (HFL.out x hx) kk1.size)
 clear hW2 hkf2 hgl1 hEV d3 f3 hw kk1
 with_reducible refine HEV.out.mono ?_
 rintro e w3 ⟨p3, F3, rfl, hm3, hn3, hb3⟩
 have kk3 := Kp.of hb3
 have c9 : w3.cell? q = some (.pointer p) := kk3.cell HA2.out.cell
 have f9 : w3.frozen? q = false := (kk3.frozen (World.block_lt_of_cell? _ _ HA2.out.cell)).trans HA2.out.fz
 have HYP := hide (yr_put HA2.out HY.out HF.out HFL2.out HBB.out HK2.out HGL2.out HF2.out kk3 hm3 hn3 (kk3.cell HE1.out) (kk3.cell HE2.out) (kk3.cell HE3.out))
 clear hm3 hn3 hb3 kk3
 go_wp2
 exact bodyPost_ret (v := .tuple #[]) (by simp [results, Tryz.results179, go_sem]) rfl ⟨rfl, by have h := HYP.out.1; rw [HNB.out, HKL.out] at h; exact h, HYP.out.2⟩
end Go.Proofs.YtcljlnagpjilaaaGreatDoor
