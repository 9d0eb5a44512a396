/-
  plain.Run: what it answers
  hedgref.SameSpots, hedgref.SameInts, slices.Equal: what they answer
  hedgkeep.plainLives: what it answers; plain laws on what Do answers
  Plain laws: what Do answers, kind by kind
  Rows above rows: what putting and cutting a tower makes of the links, row by row
  A result of type api.Ans that stands in a cell of the call's own: its block after the stor
  Rows above rows in the heap: what a call that changes a stack leaves (KQ); a tower put in,
  Small laws for the walks of skip.stack: a store that fills a fresh block; make([]link, h);
  Rows above rows: what cutting a tower makes of the links, row by row
-/
import Derived.Test.YtcljlnagpjilaaaGreatDoorG8
import Derived.Test.YtcljlnagpjilaaaGreatDoorG7
import Derived.Test.YtcljlnagpjilaaaGreatDoorG6
import Derived.Test.YtcljlnagpjilaaaGreatDoorG3
import Derived.Laws.Tables

set_option linter.unusedVariables false
set_option linter.unusedSimpArgs false
set_option maxRecDepth 100000
set_option maxHeartbeats 8000000
namespace Go.Proofs.YtcljlnagpjilaaaGreatDoor
open Go.ChangeShapes Go.WideShapes Go.ChangeAt Go.RowKit
def runS (s : List IP × List An) (o : O3) : List IP × List An := ((doA s.1 o.1 o.2.1 o.2.2).1, s.2 ++ [(doA s.1 o.1 o.2.1 o.2.2).2])
def runL (ops : List O3) : List IP × List An := ops.foldl runS ([], [])
def runOf (ops : List O3) : List IP × List An × Int := if ops.length > 300 then ([], [], 2) else ((runL ops).1, (runL ops).2, 0)
theorem runL_take (ops : List O3) (k : Nat) (h : k < ops.length) : runL (ops.take (k + 1)) = runS (runL (ops.take k)) ops[k] := by
 rw [List.take_succ_eq_append_getElem h, runL, List.foldl_append]; rfl
theorem runL_len (ops : List O3) (k : Nat) (h : k <= ops.length) : (runL (ops.take k)).2.length = k := by
 induction k with
 | zero => rfl
 | succ k ih =>
  rw [runL_take ops k (by omega), runS, List.length_append, ih (by omega)]; rfl
def RunPost (r : List IP × List An × Int) (w : World) (e : Ending) (w' : World) : Prop := ∃ v u, e = .returned (.tuple #[v, u, .int .i64 r.2.2]) /\ RD w' ePair v r.1 /\ RD w' eAns u r.2.1 /\ Below w.heap.size w w'
def RnRel (ops : List O3) (w : World) (lv ov iv : Value) (wr : World) : Prop :=
 ∃ k : Nat, k <= ops.length /\ iv = .int .i64 k /\ OW wr w.heap.size 141 ePair lv (runL (ops.take k)).1 /\ OW wr w.heap.size 84 eAns ov (runL (ops.take k)).2 /\ Kp w wr
theorem run_any (ops : List O3) (v : Value) (w : World) (hr : RD w eOp v ops) : Calls Tryz.prog 131 #[v] w (RunPost (runOf ops) w) := by
 obtain ⟨A, c, rfl, hc, hm⟩ := hr.shape
 have HR := hide hr
 clear hr
 by_cases hlen : ops.length > 300
 ·have H1 : Hid (runOf ops = ([], [], 2)) := hide (by rw [runOf, if_pos hlen])
  go_enter Tryz.func131, Tryz.ntmps131
  go_wp2
  go_ret3
  exact ⟨_, _, by rw [H1.out]; rfl, by rw [H1.out]; exact RD.nil, by rw [H1.out]; exact RD.nil, Below.refl _ _⟩
 ·have H1 : Hid (runOf ops = ((runL ops).1, (runL ops).2, 0)) := hide (by rw [runOf, if_neg hlen])
  go_enter Tryz.func131, Tryz.ntmps131
  go_wp2
  go_loopw [5, 6, 16] (RnRel ops w) (fun _ _ i _ => ops.length - (intOf i).toNat)
  case atStart => exact ⟨0, by omega, rfl, OW.nil, OW.nil, Kp.refl _⟩
  case round =>
   obtain ⟨k, hk, rfl, hl, ho, hkp⟩ := hrel
   have hi := ho.hi
   have HLO := hide ho.lo
   have HL := hide hl
   have HO := hide ho
   have hol := runL_len ops k hk
   obtain ⟨A6, c6, hv6, hc6, hm6⟩ := ho.rd.shape
   rw [hol] at hv6 hc6
   subst hv6
   clear hl ho
   by_cases hlt : k < ops.length
   ·obtain ⟨b, o, rfl, _, x0, x1, x2⟩ := (HR.out.kp hkp).op hlt
    have hst := runL_take ops k hlt
    obtain ⟨S, hS⟩ : ∃ S, S = runL (ops.take k) := ⟨_, rfl⟩
    rw [<- hS] at HL HO hst hol
    obtain ⟨D, hD⟩ : ∃ D, D = doA S.1 ops[k].1 ops[k].2.1 ops[k].2.2 := ⟨_, rfl⟩
    have HST : Hid (runL (ops.take (k + 1)) = (D.1, S.2 ++ [D.2])) := hide (by rw [hst, runS, hD])
    have HD := hide (fun W v h => do_any S.1 ops[k].1 ops[k].2.1 ops[k].2.2 v W h)
    rw [<- hD] at HD
    have HM1 : Hid ((S.2.length + [D.2].length) * 32 <= 140737488355328) := hide (by rw [hol]; simp; omega)
    have HM2 : Hid (S.2.length + [D.2].length <= maxLen) := hide (by rw [hol]; simp [maxLen]; omega)
    clear hst hD hS hol
    go_wp2_with fail
    refine (HD.out _ _ (HL.out.rd.alloc _)).mono ?_
    rintro e w2 ⟨v2, rfl, hr2, hb2⟩
    have hk2 : Kp wr w2 := (Kp.refl wr).alloc.trans hb2
    have HR2 := hide hr2
    have HO2 := hide (HO.out.kp hk2)
    obtain ⟨dl, da, db, dc, dd⟩ := D
    have hkw : Kp w w2 := hkp.trans hk2
    simp only [An.v]
    clear hr2 hb2
    go_wp2_with (at_builtin; (with_reducible refine list_app (B := w.heap.size) (l := S.2) (m := [(⟨da, db, dc, dd⟩ : An)]) row_ans (.slice A6 k c6) ?_ (.tmp 27) (.tmp 29) ?_ ?_ ?_ ?_ HM1.out HM2.out ?_ ?_); (with_reducible rfl); (with_reducible rfl); rfl; ((focus ((with_reducible apply OW.alloc); (with_reducible apply OW.alloc); exact HO2.out))); (show RD _ _ (.slice (some ⟨_, 0, none⟩) 1 1) _; (exact RD.auto)); (exact Kp.size (w := w) (by (exact Kp.auto))); intro v3 w3 ho3 hg3 hat3)
    go_roundw
    case rel =>
     refine ⟨k + 1, by omega, by go_num, ?_, by rw [HST.out]; exact ho3, (by (exact Kp.auto))⟩
     rw [HST.out]
     have hap := Lo.apart HLO.out (Hi.mono HR2.out.hi (by simp))
     exact (OW.kept ((HR2.out.alloc _).alloc _) hg3 hap).more (by have := hkp.size; simp; omega)
    case measure => simp [intOf]; omega
   ·have hkl : k = ops.length := by omega
    subst hkl
    have hS : Hid (ops.take ops.length = ops) := hide (by simp)
    clear hol
    go_wp2
    go_ret3
    exact ⟨_, _, by rw [H1.out]; rfl, by rw [H1.out, <- hS.out]; simpa using HL.out.rd, by rw [H1.out, <- hS.out]; simpa using HO.out.rd, hkp.bel⟩
def cutL (l : List IP) (key : Int) : List IP × An := if hasKey l key then (l.take (below l key) ++ l.drop (below l key + 1), ⟨0, 0, gv l (below l key), true⟩) else (l, ⟨0, 0, 0, false⟩)
section
variable {l : List IP} (key val : Int)
theorem doA_arg (kind : Int) (h : mapRight l = 0) (h5 : kind <= 5) (hk : ¬ (0 <= key /\ key <= 1000000)) : doA l kind key val = (l, ⟨1, 0, 0, false⟩) := by rw [doA, if_pos h, doL, if_pos (.inr ⟨h5, hk⟩)]
theorem doA_put (h : mapRight l = 0) (hk : 0 <= key /\ key <= 1000000) : doA l 1 key val = putL l key val := by rw [doA, if_pos h, doL, if_neg (by omega)]; rfl
theorem doA_cut (h : mapRight l = 0) (hk : 0 <= key /\ key <= 1000000) : doA l 3 key val = cutL l key := by rw [doA, if_pos h, doL, if_neg (by omega)]; rfl
end
theorem rise_of {l : List IP} (h : mapRight l = 0) : Rise l := fun i j hi hj hij => mapRight_rise l h i j hi hj hij
def pL (ts : List Tw) : List IP := (ts.drop 1).map Tw.p
theorem pL_len (ts : List Tw) : (pL ts).length = ts.length - 1 := by simp [pL]
theorem pL_at (ts : List Tw) (k : Nat) (h : k < (pL ts).length) : (pL ts)[k] = (tw ts (k + 1)).p := by
 have hk : k + 1 < ts.length := by rw [pL_len] at h; omega
 simp only [pL, List.getElem_map, List.getElem_drop]
 rw [tw, List.getD_eq_getElem?_getD, show k + 1 = 1 + k from by omega, List.getElem?_eq_getElem (by omega)]
 rfl
section
variable {w : World} {s : Nat} {ts : List Tw} {B : Nat} {key : Int}
theorem SK.rise (h : SK w s ts B) : Rise (pL ts) := fun i j hi hj hij => by
 rw [pL_at _ _ hi, pL_at _ _ hj]
 rw [pL_len] at hi hj
 exact h.up (i + 1) (j + 1) (by omega) (by omega) (by omega)
theorem isP_pF (h : SK w s ts B) {r : Nat} (hr : r < 12) : IsP ts key r (pF ts key r) := by
 obtain ⟨a1, a2, a3⟩ : pF ts key r < ts.length /\ r < (tw ts (pF ts key r)).h /\ (pF ts key r = 0 ∨ (tw ts (pF ts key r)).p.1 < key) := by
  rcases pFn_is (ts := ts) (key := key) (r := r) (by rw [h.head]; omega) ts.length (Nat.le_refl _) with e | ⟨h1, h2, h3⟩
  ·have e : pF ts key r = 0 := e
   rw [e, h.head]
   exact ⟨h.pos, by omega, .inl rfl⟩
  ·exact ⟨h1, h2, .inr h3⟩
 refine ⟨a1, a2, a3, fun m h1 h2 h3 => ?_⟩
 have key_of : ∀ n, n <= ts.length -> m < n -> pFn ts key r n < m -> key <= (tw ts m).p.1 := by
  intro n
  induction n with
  | zero => intro _ h; omega
  | succ n ih =>
   intro hn hm hp
   unfold pFn at hp
   split at hp
   ·omega
   ·next hc =>
    by_cases e : m = n
    ·subst e
     exact Int.not_lt.1 (fun hlt => hc ⟨h3, hlt⟩)
    ·exact ih (by omega) (by omega) hp
 exact key_of ts.length (Nat.le_refl _) h2 h1
theorem pF_below (h : SK w s ts B) : pF ts key 0 = below (pL ts) key := by
 have hb := below_cut (pL ts) h.rise key
 have hl : below (pL ts) key <= (pL ts).length := List.length_filter_le _ _
 have hl2 := pL_len ts
 have hpos := h.pos
 refine IsP.eq ⟨by omega, (h.h12 (by omega)).1, ?_, fun m h1 h2 h3 => ?_⟩ (.inr trivial)
 ·by_cases e : below (pL ts) key = 0
  ·exact .inl e
  ·have := (hb (below (pL ts) key - 1) (by omega)).1 (by omega)
   rw [pL_at, show below (pL ts) key - 1 + 1 = below (pL ts) key from by omega] at this
   exact .inr this
 ·have h4 : ¬ (pL ts)[m - 1].1 < key := fun hc => by have := (hb (m - 1) (by omega)).2 hc; omega
  rw [pL_at, show m - 1 + 1 = m from by omega] at h4
  omega
theorem pF_le (h : SK w s ts B) {r : Nat} (hr : r < 12) : pF ts key r <= pF ts key 0 := by
 obtain ⟨a1, a2, a3, a4⟩ := isP_pF (key := key) h hr
 obtain ⟨b1, b2, b3, b4⟩ := isP_pF (key := key) h (r := 0) (by omega)
 by_cases e : pF ts key 0 < pF ts key r
 ·have := b4 _ e a1 (by omega)
  rcases a3 with a3 | a3 <;> omega
 ·omega
theorem pF_gap (h : SK w s ts B) {r : Nat} (hr : r < 12) : ∀ x, pF ts key r < x -> x < pF ts key 0 + 1 -> (tw ts x).h <= r := fun x h1 h2 => by
 obtain ⟨a1, a2, a3, a4⟩ := isP_pF (key := key) h hr
 obtain ⟨b1, b2, b3, b4⟩ := isP_pF (key := key) h (r := 0) (by omega)
 by_cases e : r < (tw ts x).h
 ·have := a4 x h1 (by omega) e
  by_cases e2 : x = pF ts key 0
  ·subst e2; rcases b3 with b3 | b3 <;> omega
  ·have := h.up x (pF ts key 0) (by omega) (by omega) b1
   rcases b3 with b3 | b3 <;> omega
 ·omega
end
def Fq (ts : List Tw) (c : Nat) (t : Tw) (q : Nat) : Nat -> Nat -> Option Addr × Nat := fun j r =>
 if r < q then lnk (insT ts c t) j r else if j = c then (none, 0) else lnk ts (if j < c then j else j - 1) r
section
variable {ts : List Tw} {c q p : Nat} {t : Tw}
theorem fq_self (j : Nat) : Fq ts c t q j q = if j = c then (none, 0) else lnk ts (if j < c then j else j - 1) q := by
 unfold Fq; rw [if_neg (show ¬ q < q by omega)]
theorem fq_new {r : Nat} (j : Nat) (h : r < q) : Fq ts c t q j r = lnk (insT ts c t) j r := by unfold Fq; rw [if_pos h]
theorem fq_big {r : Nat} (j : Nat) (h : ¬ r < q) : Fq ts c t q j r = if j = c then (none, 0) else lnk ts (if j < c then j else j - 1) r := by unfold Fq; rw [if_neg h]
theorem fq_step (hc : c <= ts.length) (h0 : 0 < c) (hp : p < c) (hpq : q < (tw ts p).h) (hb : ∀ x, p < x -> x < c -> (tw ts x).h <= q) (F : Nat -> Nat -> Option Addr × Nat)
  (h1 : q < t.h -> F = upd (upd (Fq ts c t q) c q ((lnk ts p q).1, p + (lnk ts p q).2 + 1 - c)) p q (some ⟨t.b, 0, none⟩, c - p))
  (h2 : t.h <= q -> F = upd (Fq ts c t q) p q ((lnk ts p q).1, (lnk ts p q).2 + 1)) :
  ∀ j r, j < (insT ts c t).length -> r < (tw (insT ts c t) j).h -> F j r = Fq ts c t (q + 1) j r := by
 intro j r hj hr
 rw [insT_len hc] at hj
 by_cases er : r = q
 ·subst er
  rw [fq_new j (show r < r + 1 by omega)]
  by_cases hh : r < t.h
  ·rw [h1 hh]
   by_cases ej : j = p
   ·subst ej; rw [upd, if_pos rfl, upd1, if_pos rfl, lnk_ins_high hc hp hb hh]
   ·rw [upd, if_neg ej]
    by_cases ec : j = c
    ·subst ec; rw [upd, if_pos rfl, upd1, if_pos rfl, lnk_ins_at hc h0 hp hb]
    ·rw [upd, if_neg ec, fq_self, if_neg ec]
     by_cases el : j < c
     ·rw [if_pos el]
      rw [tw_ins hc, if_pos el] at hr
      have hjp : j < p := by
       by_cases e : p < j
       ·have := hb j e el; omega
       ·omega
      rw [lnk_ins_lt hc hjp hp hpq]
     ·rw [if_neg el, lnk_ins_gt hc h0 (by omega) (by omega)]
  ·rw [h2 (by omega)]
   by_cases ej : j = p
   ·subst ej; rw [upd, if_pos rfl, upd1, if_pos rfl, lnk_ins_low hc hp hb (by omega)]
   ·rw [upd, if_neg ej]
    by_cases ec : j = c
    ·subst ec
     rw [tw_ins hc, if_neg (by omega), if_pos rfl] at hr
     omega
    ·rw [fq_self, if_neg ec]
     by_cases el : j < c
     ·rw [if_pos el]
      rw [tw_ins hc, if_pos el] at hr
      have hjp : j < p := by
       by_cases e : p < j
       ·have := hb j e el; omega
       ·omega
      rw [lnk_ins_lt hc hjp hp hpq]
     ·rw [if_neg el, lnk_ins_gt hc h0 (by omega) (by omega)]
 ·have key : F j r = Fq ts c t q j r := by
   by_cases hh : q < t.h
   ·rw [h1 hh]
    by_cases ej : j = p
    ·subst ej
     rw [upd, if_pos rfl, upd1, if_neg er]
     by_cases ec : j = c
     ·omega
     ·rw [upd, if_neg ec]
    ·rw [upd, if_neg ej]
     by_cases ec : j = c
     ·subst ec; rw [upd, if_pos rfl, upd1, if_neg er]
     ·rw [upd, if_neg ec]
   ·rw [h2 (by omega)]
    by_cases ej : j = p
    ·subst ej; rw [upd, if_pos rfl, upd1, if_neg er]
    ·rw [upd, if_neg ej]
  rw [key]
  by_cases e : r < q
  ·rw [fq_new j e, fq_new j (by omega)]
  ·rw [fq_big j e, fq_big j (by omega)]
theorem fq_done (ts : List Tw) (c : Nat) (t : Tw) (j r : Nat) (hr : r < 12) : Fq ts c t 12 j r = lnk (insT ts c t) j r := fq_new j hr
theorem fq_old (hp : p < c) : Fq ts c t q p q = lnk ts p q := by rw [fq_self, if_neg (show ¬ p = c by omega), if_pos hp]
end
section
variable {w w' : World}
theorem ans_bc {g : Nat} {t : TypeId} {x0 x1 x2 x3 u0 u1 u2 u3 : Value} (hb : BC w g t [x0, x1, x2, x3]) :
  BC ((((w.setCell ⟨g, 0, none⟩ u0).setCell ⟨g, 1, none⟩ u1).setCell ⟨g, 2, none⟩ u2).setCell ⟨g, 3, none⟩ u3) g t [u0, u1, u2, u3] := by
 have := (((hb.set (j := 0) (u := u0)).set (j := 1) (u := u1)).set (j := 2) (u := u2)).set (j := 3) (u := u3)
 simpa using this
end
theorem info_ans4 : (Tryz.prog.info? 84).map (·.size) = some 4 := by kernel_rfl
def SkB (w : World) (i : Nat) : Prop := ∃ t cs, (t = tT ∨ t = tL ∨ t = tS) /\ BC w i t cs
def KQ (B : Nat) (w w' : World) : Prop := Kf (fun i => B <= i /\ SkB w i) w w'
section
variable {B : Nat} {a b c w w' : World}
theorem KQ.of (h : Kp w w') : KQ B w w' := Kf.of h
theorem SkB.back (h : KQ B a b) {i : Nat} (hi : i < a.heap.size) (hb : SkB b i) : SkB a i := by
 by_cases e : B <= i /\ SkB a i
 ·exact e.2
 ·obtain ⟨t, cs, ht, hc⟩ := hb
  exact ⟨t, cs, ht, (Kf.block h hi e).symm.trans hc⟩
theorem KQ.trans (h : KQ B a b) (k : KQ B b c) : KQ B a c := Kf.trans h k fun i hi hg => ⟨hg.1, hg.2.back h hi⟩
theorem KQ.on (h : KQ B a b) (k : Kp b c) : KQ B a c := h.trans (KQ.of k)
theorem KQ.set {p : Addr} {u : Value} (h : KQ B a b) (hp : (B <= p.block /\ SkB b p.block) ∨ a.heap.size <= p.block) : KQ B a (b.setCell p u) := by
 rcases hp with hp | hp
 ·exact h.trans (Kf.set (Kf.refl _ _) (.inl hp))
 ·exact Kf.set h (.inr hp)
theorem KQ.kp (h : KQ B w w') (k : Kp a w) (hB : a.heap.size <= B) : Kp a w' := Kf.kp h k fun i hi => Nat.le_trans hB hi.1
end
section
variable {w w' : World} {s : Nat} {ts : List Tw} {B : Nat} {F : Nat -> Nat -> Option Addr × Nat}
theorem SKF.tb (h : SKF w F ts B) {i : Nat} (hi : i < ts.length) : SkB w (tw ts i).b := ⟨_, _, .inl rfl, h.tow i hi⟩
theorem SK.other (h : SK w s ts B) {p : Addr} {u : Value} {t : TypeId} {cs : List Value} (hb : BC w p.block t cs) (h1 : t ≠ tT) (h2 : t ≠ tL) (h3 : t ≠ tS) : SK (w.setCell p u) s ts B :=
 h.keep fun i t' cs' ht _ hb' => hb'.far fun e => by
  subst e
  have hn : t ≠ t' := by rcases ht with rfl | rfl | rfl; exact h1; exact h2; exact h3
  exact hb.ne hb' hn rfl
theorem SK.ans4 (h : SK w s ts B) {g : Nat} {t : TypeId} {cs : List Value} (hb : BC w g t cs) (h1 : t ≠ tT) (h2 : t ≠ tL) (h3 : t ≠ tS) {u0 u1 u2 u3 : Value} :
  SK ((((w.setCell ⟨g, 0, none⟩ u0).setCell ⟨g, 1, none⟩ u1).setCell ⟨g, 2, none⟩ u2).setCell ⟨g, 3, none⟩ u3) s ts B :=
 ((((h.other (p := ⟨g, 0, none⟩) hb h1 h2 h3).other (p := ⟨g, 1, none⟩) (hb.set (j := 0)) h1 h2 h3).other (p := ⟨g, 2, none⟩) ((hb.set (j := 0)).set (j := 1)) h1 h2 h3).other (p := ⟨g, 3, none⟩) (((hb.set (j := 0)).set (j := 1)).set (j := 2)) h1 h2 h3)
theorem KQ.ans4 {a : World} (h : KQ B a w) {g : Nat} (hg : a.heap.size <= g) {u0 u1 u2 u3 : Value} :
  KQ B a ((((w.setCell ⟨g, 0, none⟩ u0).setCell ⟨g, 1, none⟩ u1).setCell ⟨g, 2, none⟩ u2).setCell ⟨g, 3, none⟩ u3) :=
 (((h.set (p := ⟨g, 0, none⟩) (.inr hg)).set (p := ⟨g, 1, none⟩) (.inr hg)).set (p := ⟨g, 2, none⟩) (.inr hg)).set (p := ⟨g, 3, none⟩) (.inr hg)
end
def setT (ts : List Tw) (i : Nat) (v : Int) : List Tw := ts.set i { tw ts i with p := ((tw ts i).p.1, v) }
theorem setT_len (ts : List Tw) (i : Nat) (v : Int) : (setT ts i v).length = ts.length := by simp [setT]
theorem tw_set {ts : List Tw} {i : Nat} (hi : i < ts.length) (v : Int) (m : Nat) : tw (setT ts i v) m = if m = i then { tw ts i with p := ((tw ts i).p.1, v) } else tw ts m := by
 unfold setT
 unfold tw
 simp only [List.getD_eq_getElem?_getD, List.getElem?_set]
 by_cases e : i = m
 ·subst e; simp [hi]
 ·rw [if_neg e, if_neg (fun h => e h.symm)]
theorem tw_set_h {ts : List Tw} {i : Nat} (hi : i < ts.length) (v : Int) (m : Nat) : (tw (setT ts i v) m).h = (tw ts m).h /\ (tw (setT ts i v) m).b = (tw ts m).b /\ (tw (setT ts i v) m).g = (tw ts m).g /\ (tw (setT ts i v) m).p.1 = (tw ts m).p.1 := by
 rw [tw_set hi]
 by_cases e : m = i
 ·subst e; rw [if_pos rfl]; exact ⟨rfl, rfl, rfl, rfl⟩
 ·rw [if_neg e]; exact ⟨rfl, rfl, rfl, rfl⟩
theorem nj_set {ts : List Tw} {i : Nat} (hi : i < ts.length) (v : Int) (j r : Nat) (hj : j < ts.length) : nj (setT ts i v) j r = nj ts j r := by
 obtain ⟨f1, f2, f3, f4⟩ := nj_facts ts j r hj
 refine nj_eq f1 (by rw [setT_len]; exact f2) (fun x h1 h2 => ?_) (fun h => ?_)
 ·rw [(tw_set_h hi v x).1]; exact f3 x h1 h2
 ·rw [(tw_set_h hi v _).1]; exact f4 (by rw [setT_len] at h; exact h)
theorem lnk_set {ts : List Tw} {i : Nat} (hi : i < ts.length) (v : Int) (j r : Nat) (hj : j < ts.length) : lnk (setT ts i v) j r = lnk ts j r := by
 unfold lnk
 rw [nj_set hi v j r hj, setT_len, (tw_set_h hi v _).2.1]
theorem SK.setV {w : World} {s : Nat} {ts : List Tw} {B : Nat} (h : SK w s ts B) {i : Nat} (hi : i < ts.length) (v : Int) : SK (w.setCell ⟨(tw ts i).b, 1, none⟩ (.int .i64 v)) s (setT ts i v) B := by
 have e4 := tw_set_h hi v
 refine ⟨⟨fun j hj => ?_, fun j hj => ?_, fun j k hj hk => ?_, fun j k hj hk => ?_, fun j hj => ?_⟩, ?_, h.hs, by rw [setT_len]; exact h.pos, by rw [setT_len]; exact h.len, by rw [(e4 0).1]; exact h.head, fun j h1 h2 => ?_, fun j k h1 h2 h3 => ?_⟩
 ·rw [setT_len] at hj
  rw [(e4 j).2.1]
  by_cases e : j = i
  ·subst e
   have := (h.f.tow j hj).set (j := 1) (u := .int .i64 v)
   rw [show (twC (tw ts j)).set 1 (.int .i64 v) = twC (tw (setT ts j v) j) by rw [tw_set hj, if_pos rfl]; rfl] at this
   exact this
  ·rw [show tw (setT ts i v) j = tw ts j by rw [tw_set hi, if_neg e]]
   exact (h.f.tow j hj).far fun e' => e (h.f.bdj j i hj hi e')
 ·rw [setT_len] at hj
  rw [(e4 j).2.2.1, (e4 j).1, lkC_congr (f' := lnk ts j) (fun r hr => lnk_set hi v j r hj)]
  exact (h.f.lkb j hj).far ((h.f.lkb j hj).ne (h.f.tow i hi) (Ne.symm tT_ne_tL))
 ·rw [setT_len] at hj hk
  rw [(e4 j).2.2.1, (e4 k).2.2.1]; exact h.f.gdj j k hj hk
 ·rw [setT_len] at hj hk
  rw [(e4 j).2.1, (e4 k).2.1]; exact h.f.bdj j k hj hk
 ·rw [setT_len] at hj
  rw [(e4 j).2.1, (e4 j).2.2.1]; exact h.f.own j hj
 ·rw [setT_len, (e4 0).2.1]
  exact h.stk.far (h.stk.ne (h.f.tow i hi) (Ne.symm tT_ne_tS))
 ·rw [setT_len] at h2
  rw [(e4 j).1, (e4 j).2.2.2]; exact h.hts j h1 h2
 ·rw [setT_len] at h3
  rw [(e4 j).2.2.2, (e4 k).2.2.2]; exact h.up j k h1 h2 h3
theorem pL_set {ts : List Tw} {i : Nat} (hi : i + 1 < ts.length) (v : Int) : pL (setT ts (i + 1) v) = (pL ts).set i ((tw ts (i + 1)).p.1, v) := by
 apply List.ext_getElem
 ·simp [pL_len, setT_len]
 ·intro k h1 h2
  rw [pL_at, tw_set hi, List.getElem_set]
  rw [pL_len, setT_len] at h1
  by_cases e : i = k
  ·subst e; rw [if_pos rfl, if_pos rfl]
  ·rw [if_neg (by omega), if_neg e, pL_at]
theorem SKF.ins {w : World} {ts : List Tw} {B c : Nat} {t : Tw} (h : SKF w (lnk ts) ts B) (hc : c <= ts.length) (h1 : BC w t.b tT (twC t)) (h2 : BC w t.g tL (lkC (fun _ => (none, 0)) t.h))
  (hb : ∀ i, i < ts.length -> (tw ts i).b ≠ t.b) (hg : ∀ i, i < ts.length -> (tw ts i).g ≠ t.g) (hB : B <= t.b /\ B <= t.g) : SKF w (Fq ts c t 0) (insT ts c t) B := by
 have key : ∀ j, j < (insT ts c t).length -> tw (insT ts c t) j = t /\ j = c ∨ ∃ k, k < ts.length /\ tw (insT ts c t) j = tw ts k /\ j ≠ c /\ k = (if j < c then j else j - 1) := fun j hj => by
  rw [insT_len hc] at hj
  rw [tw_ins hc]
  by_cases e1 : j < c
  ·rw [if_pos e1]; exact .inr ⟨j, by omega, rfl, by omega, by rw [if_pos e1]⟩
  ·rw [if_neg e1]
   by_cases e2 : j = c
   ·rw [if_pos e2]; exact .inl ⟨rfl, e2⟩
   ·rw [if_neg e2]; exact .inr ⟨j - 1, by omega, rfl, e2, by rw [if_neg e1]⟩
 refine ⟨fun j hj => ?_, fun j hj => ?_, fun j k hj hk e => ?_, fun j k hj hk e => ?_, fun j hj => ?_⟩
 ·rcases key j hj with ⟨e, _⟩ | ⟨k, hk, e, _⟩
  ·rw [e]; exact h1
  ·rw [e]; exact h.tow k hk
 ·rcases key j hj with ⟨e, e2⟩ | ⟨k, hk, e, e2, e3⟩
  ·rw [e, lkC_congr (f' := fun _ => (none, 0)) (fun r _ => by rw [fq_big j (by omega), if_pos e2])]; exact h2
  ·rw [e, lkC_congr (f' := lnk ts k) (fun r _ => by rw [fq_big j (by omega), if_neg e2, <- e3])]; exact h.lkb k hk
 ·rcases key j hj with ⟨e1, e2⟩ | ⟨k1, hk1, e1, e2, e3⟩
  ·rcases key k hk with ⟨f1, f2⟩ | ⟨k2, hk2, f1, f2, f3⟩
   ·omega
   ·rw [e1, f1] at e; exact absurd e.symm (hg k2 hk2)
  ·rcases key k hk with ⟨f1, f2⟩ | ⟨k2, hk2, f1, f2, f3⟩
   ·rw [e1, f1] at e; exact absurd e (hg k1 hk1)
   ·rw [e1, f1] at e
    have := h.gdj k1 k2 hk1 hk2 e
    split at e3 <;> split at f3 <;> omega
 ·rcases key j hj with ⟨e1, e2⟩ | ⟨k1, hk1, e1, e2, e3⟩
  ·rcases key k hk with ⟨f1, f2⟩ | ⟨k2, hk2, f1, f2, f3⟩
   ·omega
   ·rw [e1, f1] at e; exact absurd e.symm (hb k2 hk2)
  ·rcases key k hk with ⟨f1, f2⟩ | ⟨k2, hk2, f1, f2, f3⟩
   ·rw [e1, f1] at e; exact absurd e (hb k1 hk1)
   ·rw [e1, f1] at e
    have := h.bdj k1 k2 hk1 hk2 e
    split at e3 <;> split at f3 <;> omega
 ·rcases key j hj with ⟨e, _⟩ | ⟨k, hk, e, _⟩
  ·rw [e]; exact hB
  ·rw [e]; exact h.own k hk
theorem pL_ins {ts : List Tw} {c : Nat} {t : Tw} (hc : c + 1 <= ts.length) : pL (insT ts (c + 1) t) = (pL ts).take c ++ [t.p] ++ (pL ts).drop c := by
 cases ts with
 | nil => simp at hc
 | cons a l => simp [pL, insT]
theorem setRow_alloc (w : World) (old cells : Array Value) (t : TypeId) : (w.alloc (.cells old t)).setRow w.heap.size cells = w.alloc (.cells cells t) := by
 have hm : ∀ (x : Obj) (f : Obj -> Obj), (w.heap.push x).modify w.heap.size f = w.heap.push (f x) := fun x f => by
  apply Array.ext_getElem?
  intro i
  rw [Array.getElem?_modify, Array.getElem?_push, Array.getElem?_push]
  by_cases e : w.heap.size = i
  ·subst e; simp
  ·rw [if_neg e, if_neg (fun h => e h.symm), if_neg (fun h => e h.symm)]
 unfold World.setRow World.alloc
 rw [hm]
def eLk : Enc (Option Addr × Nat) := ⟨2, fun x => [.pointer x.1, .int .i64 (x.2 : Nat)], fun _ => rfl, fun _ u h => by simp at h; rcases h with rfl | rfl <;> rfl⟩
theorem info_lk : (Tryz.prog.info? 225).map (fun i => (i.zero, i.size, i.bytes)) = some (some (.agg #[.pointer none, .int .i64 0]), 2, 16) := by kernel_rfl
theorem row_lk : Row Tryz.prog 171 225 eLk 16 := row_of info_lk Tryz.underlying171 rfl rfl (by decide)
theorem zero_lk : ∀ i z, Tryz.prog.info? 225 = some i -> i.zero = some z -> z.cells.toList = eLk.cells (none, 0) := zero_of info_lk rfl
theorem lkC_rep : ∀ n, (List.replicate n ((none, 0) : Option Addr × Nat)).flatMap eLk.cells = lkC (fun _ => (none, 0)) n
 | 0 => rfl
 | n + 1 => by rw [lkC_succ, <- lkC_rep n, List.replicate_succ', List.flatMap_append]; rfl
theorem mk_links (h : Nat) (hh : h <= 12) : ∃ C : Array Value, Hid (C = (lkC (fun _ => (none, 0)) h).toArray) /\ ∀ W : World, (Instr.makeSlice 171 (.int .i64 (h : Int)) (.int .i64 (h : Int))).run Tryz.prog W = .ok (.slice (some ⟨W.heap.size, 0, none⟩) h h) (W.alloc (.cells C 225)) := by
 obtain ⟨C, h1, h2⟩ := run_mk row_lk ((none, 0) : Option Addr × Nat) zero_lk h (by omega) (by unfold maxLen; omega)
 exact ⟨C, hide (by rw [h1.out, lkC_rep]), h2⟩
def FkPost (ts : List Tw) (key : Int) (w : World) (e : Ending) (w' : World) : Prop := e = .returned (.agg (trC ts key 0).toArray) /\ Kp w w'
theorem nobody_any (a b : Value) (w : World) : Calls Tryz.prog 188 #[a, b] w (fun e w' => e = .returned (.tuple #[]) /\ w = w') := by
 go_enter Tryz.func188, Tryz.ntmps188
 go_wp2
 refine bodyPost_end (v := .tuple #[]) ?_ ?_ ?_
 ·simp [results, Tryz.results188, go_sem]
 ·rfl
 ·exact ⟨rfl, rfl⟩
theorem find_kp (s : Nat) (ts : List Tw) (key : Int) (w : World) (B : Nat) (h : SK w s ts B) :
  Calls Tryz.prog 116 #[.pointer (some ⟨s, 0, none⟩), .int .i64 key, .func (.func 188) #[] #[]] w (FkPost ts key w) := by
 refine (find_nobody s ts key w B w.heap.size (fun _ _ => True) h (Nat.le_refl _) trivial (fun W st r i _ _ _ _ _ => (nobody_any _ _ W).mono ?_) (fun _ _ _ _ _ => trivial)).mono ?_
 ·rintro e w' ⟨rfl, rfl⟩
  exact ⟨rfl, trivial, KW.refl _ _⟩
 ·rintro e w' ⟨rfl, _, hk⟩
  exact ⟨rfl, hk.2.2 w (Nat.le_refl _) (Kp.refl _)⟩
section
variable {w : World} {s : Nat} {ts : List Tw} {B : Nat} {key : Int}
theorem nj_0 (h : SK w s ts B) {i : Nat} (hi : i < ts.length) : nj ts i 0 = i + 1 := by
 obtain ⟨f1, f2, f3, f4⟩ := nj_facts ts i 0 hi
 by_cases e : i + 1 < nj ts i 0
 ·have := f3 (i + 1) (by omega) e
  have := (h.h12 (i := i + 1) (by omega)).1
  omega
 ·omega
theorem lnk_0 (h : SK w s ts B) {i : Nat} (hi : i < ts.length) : (lnk ts i 0).1 = if i + 1 < ts.length then some ⟨(tw ts (i + 1)).b, 0, none⟩ else none := by
 unfold lnk
 rw [nj_0 h hi]
theorem sk_has (h : SK w s ts B) : hasKey (pL ts) key = true ↔ (pF ts key 0 + 1 < ts.length /\ (tw ts (pF ts key 0 + 1)).p.1 = key) := by
 rw [hasKey_iff (pL ts) h.rise key, pF_below h]
 constructor
 ·rintro ⟨hb, he⟩
  rw [pL_at] at he
  rw [pL_len] at hb
  exact ⟨by omega, he⟩
 ·rintro ⟨hb, he⟩
  exact ⟨by rw [pL_len]; omega, by rw [pL_at]; exact he⟩
theorem SK.len_lt (h : SK w s ts B) : pF ts key 0 < ts.length := (isP_pF (key := key) h (r := 0) (by omega)).1
end
theorem trC_at (ts : List Tw) (key : Int) (q : Nat) (hq : q < 12) : (trC ts key 0)[q]? = some (.pointer (some ⟨(tw ts (pF ts key q)).b, 0, none⟩)) /\ (trC ts key 0)[12 + q]? = some (.int .i64 (pF ts key q : Nat)) := by
 unfold trC
 constructor
 ·rw [List.getElem?_append_left (by simp; omega)]
  simp [hq]
 ·rw [List.getElem?_append_right (by simp)]
  simp [hq]
theorem hgt_nat (key : Int) : ∃ h : Nat, (h : Int) = hgtF key /\ 0 < h /\ h <= 12 := by
 have := hgtF_in key
 exact ⟨(hgtF key).toNat, by omega, by omega, by omega⟩
section
variable {w : World} {F : Nat -> Nat -> Option Addr × Nat} {ts : List Tw} {B c q : Nat} {t : Tw}
theorem SKF.at_new (h : SKF w F (insT ts c t) B) (hc : c <= ts.length) : BC w t.b tT (twC t) /\ BC w t.g tL (lkC (F c) t.h) /\ B <= t.b /\ B <= t.g := by
 have e : tw (insT ts c t) c = t := by rw [tw_ins hc, if_neg (by omega), if_pos rfl]
 have hl : c < (insT ts c t).length := by rw [insT_len hc]; omega
 have h1 := h.tow c hl
 have h2 := h.lkb c hl
 have h3 := h.own c hl
 rw [e] at h1 h2 h3
 exact ⟨h1, h2, h3⟩
theorem SKF.at_old (h : SKF w F (insT ts c t) B) (hc : c <= ts.length) {p : Nat} (hp : p < c) : BC w (tw ts p).b tT (twC (tw ts p)) /\ BC w (tw ts p).g tL (lkC (F p) (tw ts p).h) /\ (tw ts p).g ≠ t.g /\ B <= (tw ts p).b /\ B <= (tw ts p).g := by
 have e : tw (insT ts c t) p = tw ts p := by rw [tw_ins hc, if_pos hp]
 have e2 : tw (insT ts c t) c = t := by rw [tw_ins hc, if_neg (by omega), if_pos rfl]
 have hl : c < (insT ts c t).length := by rw [insT_len hc]; omega
 have hl2 : p < (insT ts c t).length := by omega
 have h1 := h.tow p hl2
 have h2 := h.lkb p hl2
 have h3 := h.own p hl2
 have h4 := h.gdj p c hl2 hl
 rw [e] at h1 h2 h3 h4
 rw [e2] at h4
 exact ⟨h1, h2, fun h5 => by have := h4 h5; omega, h3⟩
theorem lnk_past (hc : c <= ts.length) (h0 : 0 < c) {p r : Nat} (hp : p < c) (hb : ∀ x, p < x -> x < c -> (tw ts x).h <= r) : c <= p + (lnk ts p r).2 + 1 := by
 obtain ⟨f1, f2, f3, f4⟩ := nj_facts ts p r (by omega)
 have hge : c <= nj ts p r := by
  by_cases h : nj ts p r < c
  ·have := hb _ f1 h
   have := f4 (by omega)
   omega
  ·omega
 unfold lnk
 simp only
 omega
theorem SKF.put_hi (h : SKF w (Fq ts c t q) (insT ts c t) B) (hc : c <= ts.length) (h0 : 0 < c) {p : Nat} (hp : p < c) (hpq : q < (tw ts p).h) (hb : ∀ x, p < x -> x < c -> (tw ts x).h <= q) (hq : q < t.h) {x : Option Addr} {M D : Nat} (hx : x = (lnk ts p q).1) (hM : M = p + (lnk ts p q).2 + 1 - c) (hD : D = c - p) :
  SKF ((((w.setCell ⟨t.g, q * 2, none⟩ (.pointer x)).setCell ⟨t.g, q * 2 + 1, none⟩ (.int .i64 (M : Nat))).setCell ⟨(tw ts p).g, q * 2, none⟩ (.pointer (some ⟨t.b, 0, none⟩))).setCell ⟨(tw ts p).g, q * 2 + 1, none⟩ (.int .i64 (D : Nat))) (Fq ts c t (q + 1)) (insT ts c t) B := by
 subst hx hM hD
 have e : tw (insT ts c t) p = tw ts p := by rw [tw_ins hc, if_pos hp]
 have e2 : tw (insT ts c t) c = t := by rw [tw_ins hc, if_neg (by omega), if_pos rfl]
 have hl : c < (insT ts c t).length := by rw [insT_len hc]; omega
 have h1 := h.set2 (i := c) (r := q) hl (by rw [e2]; exact hq) (lnk ts p q).1 (p + (lnk ts p q).2 + 1 - c)
 have h2 := h1.set2 (i := p) (r := q) (by omega) (by rw [e]; exact hpq) (some ⟨t.b, 0, none⟩) (c - p)
 rw [e, e2] at h2
 exact h2.congr fun j r hj hr => fq_step hc h0 hp hpq hb _ (fun _ => rfl) (fun h => by omega) j r hj hr
theorem SKF.put_lo (h : SKF w (Fq ts c t q) (insT ts c t) B) (hc : c <= ts.length) (h0 : 0 < c) {p : Nat} (hp : p < c) (hpq : q < (tw ts p).h) (hb : ∀ x, p < x -> x < c -> (tw ts x).h <= q) (hq : t.h <= q) {D : Nat} (hD : D = (lnk ts p q).2 + 1) :
  SKF (w.setCell ⟨(tw ts p).g, q * 2 + 1, none⟩ (.int .i64 (D : Nat))) (Fq ts c t (q + 1)) (insT ts c t) B := by
 subst hD
 have e : tw (insT ts c t) p = tw ts p := by rw [tw_ins hc, if_pos hp]
 have hl2 : p < (insT ts c t).length := by rw [insT_len hc]; omega
 have h2 := h.setW (i := p) (r := q) hl2 (by rw [e]; exact hpq) ((lnk ts p q).2 + 1)
 rw [e] at h2
 refine h2.congr fun j r hj hr => fq_step hc h0 hp hpq hb _ (fun h => by omega) (fun _ => ?_) j r hj hr
 rw [fq_old hp]
end
theorem SK.grown {w wr : World} {s : Nat} {ts : List Tw} {B c : Nat} {t : Tw} (h : SK w s ts B) (hf : SKF wr (Fq ts (c + 1) t 12) (insT ts (c + 1) t) B) (hc : c + 1 <= ts.length) (hl : ts.length <= 200)
  (hs : BC wr s tS [.pointer (some ⟨(tw ts 0).b, 0, none⟩), .int .i64 0, .int .i64 ((ts.length : Nat) : Int)]) (ht : (t.h : Int) = hgtF t.p.1 /\ 0 < t.h /\ t.h <= 12)
  (h1 : ∀ i, 0 < i -> i < c + 1 -> (tw ts i).p.1 < t.p.1) (h2 : ∀ i, c + 1 <= i -> i < ts.length -> t.p.1 < (tw ts i).p.1) : SK wr s (insT ts (c + 1) t) B := by
 have et := tw_ins (t := t) hc
 have e0 : tw (insT ts (c + 1) t) 0 = tw ts 0 := by rw [et, if_pos (by omega)]
 refine ⟨hf.congr fun j r hj hr => fq_done ts (c + 1) t j r ?_, ?_, h.hs, by rw [insT_len hc]; omega, by rw [insT_len hc]; omega, by rw [e0]; exact h.head, fun i hi hl2 => ?_, fun i j hi hij hl2 => ?_⟩
 ·rw [insT_len hc] at hj
  rw [et] at hr
  split at hr
  ·have := (h.h12 (i := j) (by omega)).2; omega
  ·split at hr
   ·omega
   ·have := (h.h12 (i := j - 1) (by omega)).2; omega
 ·rw [e0, insT_len hc, Nat.add_sub_cancel]; exact hs
 ·rw [insT_len hc] at hl2
  rw [et]
  split
  ·exact h.hts i hi (by omega)
  ·split
   ·exact ht
   ·exact h.hts (i - 1) (by omega) (by omega)
 ·rw [insT_len hc] at hl2
  rw [et, et]
  by_cases a1 : i < c + 1
  ·rw [if_pos a1]
   by_cases b1 : j < c + 1
   ·rw [if_pos b1]; exact h.up i j hi hij (by omega)
   ·rw [if_neg b1]
    by_cases b2 : j = c + 1
    ·rw [if_pos b2]; exact h1 i hi a1
    ·rw [if_neg b2]; exact h.up i (j - 1) hi (by omega) (by omega)
  ·rw [if_neg a1, if_neg (show ¬ j < c + 1 by omega), if_neg (show ¬ j = c + 1 by omega)]
   by_cases a2 : i = c + 1
   ·rw [if_pos a2]; exact h2 (j - 1) (by omega) (by omega)
   ·rw [if_neg a2]; exact h.up (i - 1) (j - 1) (by omega) (by omega) (by omega)
theorem sk_lower {w : World} {s : Nat} {ts : List Tw} {B : Nat} {key : Int} (h : SK w s ts B) : ∀ i, 0 < i -> i < pF ts key 0 + 1 -> (tw ts i).p.1 < key := fun i h1 h2 => by
 obtain ⟨a1, a2, a3, a4⟩ := isP_pF (key := key) h (r := 0) (by omega)
 by_cases e : i = pF ts key 0
 ·subst e; rcases a3 with a3 | a3 <;> omega
 ·have := h.up i (pF ts key 0) h1 (by omega) a1
  rcases a3 with a3 | a3 <;> omega
theorem sk_upper {w : World} {s : Nat} {ts : List Tw} {B : Nat} {key : Int} (h : SK w s ts B) (hn : hasKey (pL ts) key = false) : ∀ i, pF ts key 0 + 1 <= i -> i < ts.length -> key < (tw ts i).p.1 := fun i h1 h2 => by
 obtain ⟨a1, a2, a3, a4⟩ := isP_pF (key := key) h (r := 0) (by omega)
 have h3 := a4 (pF ts key 0 + 1) (by omega) (by omega) (h.h12 (by omega)).1
 have h4 : (tw ts (pF ts key 0 + 1)).p.1 ≠ key := fun e => by
  have := (sk_has (key := key) h).2 ⟨by omega, e⟩
  rw [hn] at this; cases this
 by_cases e : i = pF ts key 0 + 1
 ·subst e; omega
 ·have := h.up (pF ts key 0 + 1) i (by omega) (by omega) h2; omega
theorem tr_store (ts : List Tw) (key : Int) (w W : World) (hW : W = w.alloc (.cells (trC ts key 0).toArray 169)) :
  (storeCells ⟨w.heap.size, 0, none⟩ (trC ts key 0)).run Tryz.prog (w.alloc (.cells #[.pointer none, .pointer none, .pointer none, .pointer none, .pointer none, .pointer none, .pointer none, .pointer none, .pointer none, .pointer none, .pointer none, .pointer none, .int .i64 0, .int .i64 0, .int .i64 0, .int .i64 0, .int .i64 0, .int .i64 0, .int .i64 0, .int .i64 0, .int .i64 0, .int .i64 0, .int .i64 0, .int .i64 0] 169)) = .ok () W := by
 have := run_storeCells_from (P := Tryz.prog) w.heap.size 169 (trC ts key 0) 0 #[.pointer none, .pointer none, .pointer none, .pointer none, .pointer none, .pointer none, .pointer none, .pointer none, .pointer none, .pointer none, .pointer none, .pointer none, .int .i64 0, .int .i64 0, .int .i64 0, .int .i64 0, .int .i64 0, .int .i64 0, .int .i64 0, .int .i64 0, .int .i64 0, .int .i64 0, .int .i64 0, .int .i64 0] (w.alloc (.cells #[.pointer none, .pointer none, .pointer none, .pointer none, .pointer none, .pointer none, .pointer none, .pointer none, .pointer none, .pointer none, .pointer none, .pointer none, .int .i64 0, .int .i64 0, .int .i64 0, .int .i64 0, .int .i64 0, .int .i64 0, .int .i64 0, .int .i64 0, .int .i64 0, .int .i64 0, .int .i64 0, .int .i64 0] 169)) (heap_alloc_new w _) (by simp [trC_len]) (fun v hv => (Array.all_eq_true_iff_forall_mem.1 (trC_one ts key 0)) v (by simpa using hv))
 rw [this, hW, setRow_alloc]
 simp
end Go.Proofs.YtcljlnagpjilaaaGreatDoor
