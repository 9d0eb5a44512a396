/-
  hedgref.KeysRight, slices.Index, slices.Contains at int: what they answer
  skip.made, skip.of: what they answer
  Slices of slices that are read (RDS)
  A slice of slices that the call owns (OWS): appended to, read (RDS)
  Rows of keys by their heights
  skip.stack.all: what it answers
  skip.Rows: what it answers
  The heights by bits, plainly: what exchanged, timesTwo and bit make of a number (exN, mulN
  hedgref.HeightOf with bit, exchanged, timesTwo: HeightOf answers what skip.Height answers 
  hedgref.SameRows, RowsOf: what they answer
  Keys that are right: few, rising, in bounds
  hedgref.Stops: what it answers
  skip.Path, Rows, Run: what they answer
-/
import Derived.Test.YtcljlnagpjilaaaGreatDoorG7
import Derived.Test.YtcljlnagpjilaaaGreatDoorG13
import Derived.Test.YtcljlnagpjilaaaGreatDoorG1
import Derived.Laws.Bits64b
import Derived.Test.YtcljlnagpjilaaaGreatDoorG9
import Derived.Test.YtcljlnagpjilaaaGreatDoorG3

set_option linter.unusedVariables false
set_option linter.unusedSimpArgs false
set_option maxRecDepth 100000
set_option maxHeartbeats 8000000
namespace Go.Proofs.YtcljlnagpjilaaaGreatDoor
open Go.ChangeShapes Go.WideShapes Go.ChangeAt Go.RowKit
def krF : Int -> List Int -> Int
 | _, [] => 0
 | la, x :: t => if la + 1 <= x /\ x <= 1000000 then krF x t else 3
def krL (l : List Int) : Int := if l.length > 200 then 2 else krF (-1) l
theorem putL_last {l : List IP} {key v : Int} (h : ∀ p ∈ l, p.1 < key) (hl : l.length < 200) : putL l key v = (l ++ [(key, v)], ⟨0, 0, 0, false⟩) := by
 have hb : below l key = l.length := by
  unfold below
  rw [List.filter_eq_self.2 (fun p hp => by simpa using h p hp)]
 have hh : hasKey l key = false := by
  cases e : hasKey l key with
  | false => rfl
  | true =>
   obtain ⟨p, hp, e2⟩ : ∃ p ∈ l, p.1 = key := by
    unfold hasKey at e
    first
     | (obtain ⟨p, hp, e2⟩ := List.any_eq_true.1 e; exact ⟨p, hp, by simpa using e2⟩)
     | (simp at e; obtain ⟨b, hb⟩ := e; exact ⟨_, hb, rfl⟩)
   have := h p hp; omega
 rw [putL, hh, if_neg (by simp), if_neg (by omega), hb, List.take_length, List.drop_length, List.append_nil]
def MdPost (w : World) (e : Ending) (w' : World) : Prop := ∃ s ts, e = .returned (.pointer (some ⟨s, 0, none⟩)) /\ SK w' s ts w.heap.size /\ pL ts = [] /\ Kp w w'
theorem skMade_any (w : World) : Calls Tryz.prog 157 #[] w (MdPost w) := by
 obtain ⟨CL, hCL, hmk⟩ := mk_links 12 (by omega)
 have HCL := hCL
 have hmk2 : ∀ W : World, (Instr.makeSlice 171 (.int .i64 12) (.int .i64 12)).run Tryz.prog W = .ok (.slice (some ⟨W.heap.size, 0, none⟩) 12 12) (W.alloc (.cells CL 225)) := hmk
 clear hmk hCL
 go_enter Tryz.func157, Tryz.ntmps157
 go_wp2
 go_ret
 obtain ⟨t, ht⟩ : ∃ t : Tw, t = ⟨w.heap.size + 1, w.heap.size, 12, (0, 0)⟩ := ⟨_, rfl⟩
 have hlk : lkC (lnk [t] 0) 12 = lkC (fun _ => (none, 0)) 12 := lkC_congr fun r hr => by
  have hn : nj [t] 0 r = 1 := rfl
  unfold lnk
  rw [hn]; rfl
 have b1 := BC.new w 225 CL.toList
 have b2 := BC.new (w.alloc (.cells CL 225)) 173 [.int .i64 0, .int .i64 0, .slice (some ⟨w.heap.size, 0, none⟩) 12 12]
 have b3 := BC.new ((w.alloc (.cells CL 225)).alloc (.cells #[.int .i64 0, .int .i64 0, .slice (some ⟨w.heap.size, 0, none⟩) 12 12] 173)) 227 [.pointer (some ⟨w.heap.size + 1, 0, none⟩), .int .i64 0, .int .i64 0]
 rw [show (w.alloc (.cells CL 225)).heap.size = w.heap.size + 1 by simp] at b2
 rw [show ((w.alloc (.cells CL 225)).alloc (.cells #[.int .i64 0, .int .i64 0, .slice (some ⟨w.heap.size, 0, none⟩) 12 12] 173)).heap.size = w.heap.size + 2 by simp] at b3
 have b1' : BC (((w.alloc (.cells CL.toList.toArray 225)).alloc (.cells #[.int .i64 0, .int .i64 0, .slice (some ⟨w.heap.size, 0, none⟩) 12 12] 173)).alloc (.cells #[.pointer (some ⟨w.heap.size + 1, 0, none⟩), .int .i64 0, .int .i64 0] 227)) w.heap.size 225 CL.toList := b1.kp (Kp.refl _).alloc.alloc
 have b2' : BC (((w.alloc (.cells CL 225)).alloc (.cells #[.int .i64 0, .int .i64 0, .slice (some ⟨w.heap.size, 0, none⟩) 12 12] 173)).alloc (.cells #[.pointer (some ⟨w.heap.size + 1, 0, none⟩), .int .i64 0, .int .i64 0] 227)) (w.heap.size + 1) 173 _ := b2.kp (Kp.refl _).alloc
 have t0 : ∀ i, i < [t].length -> i = 0 := fun i hi => by simpa using hi
 have e0 : tw [t] 0 = t := rfl
 rw [HCL.out] at b1' b2' b3 ⊢
 refine ⟨w.heap.size + 1 + 1, [t], rfl, ⟨⟨fun i hi => ?_, fun i hi => ?_, fun i j hi hj _ => by rw [t0 i hi, t0 j hj], fun i j hi hj _ => by rw [t0 i hi, t0 j hj], fun i hi => ?_⟩, ?_, by omega, by simp, by simp, ?_, fun i h1 h2 => ?_, fun i j h1 h2 h3 => ?_⟩, rfl, (Kp.refl w).alloc.alloc.alloc⟩
 ·rw [t0 i hi, e0, ht]; exact b2'
 ·rw [t0 i hi, e0, show (t.h) = 12 by rw [ht], hlk, show t.g = w.heap.size by rw [ht]]; exact b1'
 ·rw [t0 i hi, e0, ht]; simp
 ·rw [e0, ht]; exact b3
 ·rw [e0, ht]
 ·have := t0 i h2; omega
 ·have := t0 j h3; omega
def SoPost (keys : List Int) (w : World) (e : Ending) (w' : World) : Prop :=
 (krL keys ≠ 0 /\ e = .returned (.tuple #[.pointer none, .int .i64 (krL keys)]) /\ Kp w w') ∨
 (krL keys = 0 /\ ∃ s ts, e = .returned (.tuple #[.pointer (some ⟨s, 0, none⟩), .int .i64 0]) /\ SK w' s ts w.heap.size /\ pL ts = keys.map (fun k => (k, 0)) /\ Kp w w')
def OfRel (keys : List Int) (w : World) (s : Nat) (iv : Value) (wr : World) : Prop :=
 ∃ (k : Nat) (ts : List Tw) (la : Int), k <= keys.length /\ iv = .int .i64 (k : Int) /\ SK wr s ts w.heap.size /\ pL ts = (keys.take k).map (fun x => (x, 0)) /\ (k = 0 -> la = -1) /\ (∀ j, j + 1 = k -> keys[j]? = some la) /\ -1 <= la /\ la <= 1000000 /\ (∀ x ∈ keys.take k, x <= la) /\ krF la (keys.drop k) = krF (-1) keys /\ Kp w wr
theorem skOf_any (keys : List Int) (v : Value) (w : World) (hr : RD w eInt v keys) (hdb : DTb w) : Calls Tryz.prog 113 #[v] w (SoPost keys w) := by
 obtain ⟨A, c, rfl, hc, hm⟩ := hr.shape
 by_cases hlen : keys.length > 200
 ·have H1 : Hid (krL keys = 2) := hide (by rw [krL, if_pos hlen])
  go_enter Tryz.func113, Tryz.ntmps113
  go_wp2
  go_ret2
  exact .inl ⟨by rw [H1.out]; decide, by rw [H1.out]; rfl, Kp.refl _⟩
 ·have H0 : Hid (krL keys = krF (-1) keys) := hide (by rw [krL, if_neg hlen])
  have HR := hide hr
  have HDB := hide hdb
  clear hr hdb
  go_enter Tryz.func113, Tryz.ntmps113
  go_wp2_with fail
  with_reducible refine (skMade_any w).mono ?_
  rintro e w1 ⟨s, ts1, rfl, hsk1, hpl1, kk1⟩
  have HREL : Hid (OfRel keys w s (.int .i64 0) w1) := hide ⟨0, ts1, -1, by omega, rfl, hsk1, hpl1, fun _ => rfl, fun j h => by omega, by omega, by omega, fun x hx => by simp at hx, rfl, kk1⟩
  clear hsk1 hpl1 kk1
  go_wp2
  go_loopw [13] (OfRel keys w s) (fun i _ => keys.length - (intOf i).toNat)
  case atStart => exact HREL.out
  case round =>
   obtain ⟨k, ts, la, hk, rfl, hsk, hpl, hla0, hla1, g1, g2, hmx, he, hkp⟩ := hrel
   have HKP := hide hkp
   have HSK := hide hsk
   have HPL := hide hpl
   by_cases hlt : k < keys.length
   ·obtain ⟨b, o, rfl, _, c0⟩ := (HR.out.kp hkp).int hlt
    rw [List.drop_eq_getElem_cons hlt, krF] at he
    obtain ⟨y, hy⟩ : ∃ y, y = keys[k] := ⟨_, rfl⟩
    have HY := hide hy
    rw [<- hy] at c0 he
    by_cases hb : 0 <= y /\ y <= 1000000
    ·have HBT := hide ((btw_iff y 0 1000000).2 hb)
     by_cases hgo : la < y
     ·rw [if_pos (by omega)] at he
      have HE := hide he
      have hput : putL (pL ts) y 0 = (pL ts ++ [(y, 0)], ⟨0, 0, 0, false⟩) := putL_last (fun p hp => by
       rw [hpl] at hp
       obtain ⟨x, hx, rfl⟩ := List.mem_map.1 hp
       have := hmx x hx
       simp only; omega) (by rw [hpl]; simp; omega)
      have HPT := hide (skPut_any s ts y 0 wr w.heap.size hsk (HDB.out.kp hkp) hkp.size)
      rw [hput] at HPT
      have HMX := hide hmx
      have hy1 : -1 <= y := by omega
      have hy2 : y <= 1000000 := hb.2
      have HGO := hide hgo
      by_cases hk0 : 0 < k
      ·obtain ⟨p, hp⟩ : ∃ p, p + 1 = k := ⟨k - 1, by omega⟩
       have hpl2 : p < keys.length := by omega
       obtain ⟨b2, o2, e2, _, c1⟩ := (HR.out.kp hkp).int (k := p) hpl2
       injection e2 with e2
       injection e2 with e2 e3
       subst e2 e3
       have hlp := hla1 p hp
       rw [List.getElem?_eq_getElem hpl2] at hlp
       injection hlp with hlp
       rw [hlp] at c1
       have s1 : IntKind.i64.wrap ((k : Int) - 1) = (p : Int) := by rw [IntWalk.i64_in _ (by omega)]; omega
       have gg : decide (0 < k) = true := decide_eq_true hk0
       have gi : decide ((0 : Int) < (k : Int)) = true := by simp; omega
       have d1 : decide (y <= la) = false := decide_eq_false (by omega)
       have d0 : (0 : Int) <= (p : Int) := by omega
       have d2 : (p : Int) < (keys.length : Int) := by omega
       clear hb he hy hsk hpl hla0 hla1 hmx hkp hput hlp hgo hp
       go_wp2_with (go_at_call 115; ((with_reducible refine (sk_within_to _ _ _ true _ HBT.out).mono ?_); rintro e w' ⟨rfl, rfl⟩))
       with_reducible refine HPT.out.mono ?_
       rintro e w2 ⟨ts2, rfl, hsk2, hpl2, hkq⟩
       have HSK2 := hide hsk2
       have HPL2 := hide hpl2
       have HKQ := hide hkq
       clear hsk2 hpl2 hkq
       go_wp2
       have hkp2 : Kp w w2 := HKQ.out.kp HKP.out (Nat.le_refl _)
       refine ⟨⟨_, ts2, y, ?_, by go_num, HSK2.out, ?_, fun h => by omega, fun j h => ?_, hy1, hy2, fun x hx => ?_, HE.out, hkp2⟩, ?_⟩
       ·omega
       ·rw [HPL2.out, HPL.out, List.take_succ_eq_append_getElem hlt, List.map_append, <- HY.out]; rfl
       ·simp only [Nat.add_right_cancel_iff] at h; subst h; rw [List.getElem?_eq_getElem hlt, HY.out]
       ·rw [List.take_succ_eq_append_getElem hlt, <- HY.out] at hx
        rcases List.mem_append.1 hx with hx | hx
        ·have := HMX.out x hx; have := HGO.out; omega
        ·simp at hx; omega
       ·simp [intOf] <;> omega
      ·obtain rfl : k = 0 := by omega
       rw [Nat.add_zero] at c0
       clear hb he hy hsk hpl hla0 hla1 hmx hkp hput hgo
       go_wp2_with (go_at_call 115; ((with_reducible refine (sk_within_to _ _ _ true _ HBT.out).mono ?_); rintro e w' ⟨rfl, rfl⟩))
       with_reducible refine HPT.out.mono ?_
       rintro e w2 ⟨ts2, rfl, hsk2, hpl2, hkq⟩
       have HSK2 := hide hsk2
       have HPL2 := hide hpl2
       have HKQ := hide hkq
       clear hsk2 hpl2 hkq
       go_wp2
       have hkp2 : Kp w w2 := HKQ.out.kp HKP.out (Nat.le_refl _)
       refine ⟨⟨_, ts2, y, ?_, by go_num, HSK2.out, ?_, fun h => by omega, fun j h => ?_, hy1, hy2, fun x hx => ?_, HE.out, hkp2⟩, ?_⟩
       ·omega
       ·rw [HPL2.out, HPL.out, List.take_succ_eq_append_getElem hlt, List.map_append, <- HY.out]; rfl
       ·simp only [Nat.add_right_cancel_iff] at h; subst h; rw [List.getElem?_eq_getElem hlt, HY.out]
       ·rw [List.take_succ_eq_append_getElem hlt, <- HY.out] at hx
        rcases List.mem_append.1 hx with hx | hx
        ·have := HMX.out x hx; have := HGO.out; omega
        ·simp at hx; omega
       ·simp [intOf] <;> omega
     ·have hk0 : 0 < k := by
       by_cases e : k = 0
       ·have := hla0 e; omega
       ·omega
      rw [if_neg (by omega)] at he
      have H1 : Hid (krL keys = 3) := hide (by rw [H0.out, <- he])
      obtain ⟨p, hp⟩ : ∃ p, p + 1 = k := ⟨k - 1, by omega⟩
      have hpl2 : p < keys.length := by omega
      obtain ⟨b2, o2, e2, _, c1⟩ := (HR.out.kp hkp).int (k := p) hpl2
      injection e2 with e2
      injection e2 with e2 e3
      subst e2 e3
      have hlp := hla1 p hp
      rw [List.getElem?_eq_getElem hpl2] at hlp
      injection hlp with hlp
      rw [hlp] at c1
      have s1 : IntKind.i64.wrap ((k : Int) - 1) = (p : Int) := by rw [IntWalk.i64_in _ (by omega)]; omega
      have gg : decide (0 < k) = true := decide_eq_true hk0
      have gi : decide ((0 : Int) < (k : Int)) = true := by simp; omega
      have d1 : decide (y <= la) = true := decide_eq_true (by omega)
      have d0 : (0 : Int) <= (p : Int) := by omega
      have d2 : (p : Int) < (keys.length : Int) := by omega
      clear hb he hy hsk hpl hla0 hla1 hmx hkp hlp hgo hp
      go_wp2_with (go_at_call 115; ((with_reducible refine (sk_within_to _ _ _ true _ HBT.out).mono ?_); rintro e w' ⟨rfl, rfl⟩))
      go_ret2
      exact .inl ⟨by rw [H1.out]; decide, by rw [H1.out]; rfl, HKP.out⟩
    ·have HBT := hide ((btw_f_iff y 0 1000000).2 hb)
     rw [if_neg (by omega)] at he
     have H1 : Hid (krL keys = 3) := hide (by rw [H0.out, <- he])
     clear hb he hy hsk hpl hla0 hla1 hmx hkp
     go_wp2_with (go_at_call 115; ((with_reducible refine (sk_within_to _ _ _ false _ HBT.out).mono ?_); rintro e w' ⟨rfl, rfl⟩))
     go_ret2
     exact .inl ⟨by rw [H1.out]; decide, by rw [H1.out]; rfl, HKP.out⟩
   ·rw [List.drop_eq_nil_of_le (by omega)] at he
    have H1 : Hid (krL keys = 0) := hide (by rw [H0.out, <- he]; rfl)
    have hkl : Hid (pL ts = keys.map (fun k => (k, 0))) := hide (by rw [hpl, List.take_of_length_le (by omega)])
    clear he hsk hpl hla0 hla1 hmx hkp
    go_wp2
    go_ret2
    exact .inr ⟨H1.out, s, ts, rfl, HSK.out, hkl.out, HKP.out⟩
def RDS {α : Type} (w : World) (E : Enc α) (v : Value) (ls : List (List α)) : Prop :=
 ∃ A c, v = .slice A ls.length c /\ ls.length <= c /\ c <= maxLen /\ (0 < ls.length -> ∃ b o, A = some ⟨b, o, none⟩ /\ b < w.heap.size /\
  ∀ k (h : k < ls.length), ∃ u, w.cell? ⟨b, o + k, none⟩ = some u /\ RD w E u ls[k])
section
variable {α : Type} {w w' : World} {E : Enc α} {v : Value} {ls : List (List α)}
theorem RDS.shape (h : RDS w E v ls) : ∃ A c, v = .slice A ls.length c /\ ls.length <= c /\ c <= 9223372036854775807 := by
 obtain ⟨A, c, rfl, h1, h2, h3⟩ := h
 exact ⟨A, c, rfl, h1, by unfold maxLen at h2; omega⟩
theorem RDS.at_ {A : Option Addr} {n c : Nat} (h : RDS w E (.slice A n c) ls) {k : Nat} (hk : k < ls.length) :
  ∃ b o u, A = some ⟨b, o, none⟩ /\ b < w.heap.size /\ w.cell? ⟨b, o + k, none⟩ = some u /\ RD w E u ls[k] := by
 obtain ⟨A', c', e, h1, h2, h3⟩ := h
 injection e with e1 e2 e3
 subst e1
 obtain ⟨b, o, rfl, hb, hc⟩ := h3 (by omega)
 obtain ⟨u, h4, h5⟩ := hc k hk
 exact ⟨b, o, u, rfl, hb, h4, h5⟩
theorem RDS.kp (h : RDS w E v ls) (hb : Kp w w') : RDS w' E v ls := by
 obtain ⟨A, c, rfl, h1, h2, h3⟩ := h
 refine ⟨A, c, rfl, h1, h2, fun h0 => ?_⟩
 obtain ⟨b, o, rfl, hb', hc⟩ := h3 h0
 refine ⟨b, o, rfl, Nat.lt_of_lt_of_le hb' hb.size, fun k hk => ?_⟩
 obtain ⟨u, h4, h5⟩ := hc k hk
 exact ⟨u, hb.cell h4, h5.kp hb⟩
end
abbrev V1 := {v : Value // v.oneCell' = true}
theorem OW.apart {α β : Type} {w : World} {B B' : Nat} {e e' : TypeId} {E : Enc α} {E' : Enc β} {v v' : Value} {l : List α} {l' : List β} (h : OW w B e E v l) (h' : OW w B' e' E' v' l') (hn : e ≠ e') : v.ownBlock = none ∨ v.ownBlock ≠ v'.ownBlock := by
 rcases h.2 with ⟨rfl, _⟩ | ⟨g, cap, cur, rfl, hg, hh, r⟩
 ·exact .inl rfl
 ·rcases h'.2 with ⟨rfl, _⟩ | ⟨g', cap', cur', rfl, hg', hh', r'⟩
  ·right; simp [Value.ownBlock]
  ·right
   intro e1
   injection e1 with e1
   subst e1
   rw [hh] at hh'
   injection hh' with hh'
   injection hh' with _ e2
   exact hn e2
theorem slice_one (A : Option Addr) (n c : Nat) : (Value.slice A n c).oneCell' = true := rfl
def OWS {α : Type} (w : World) (B : Nat) (st e : TypeId) (E : Enc α) (v : Value) (ls : List (List α)) : Prop :=
 ∃ vs : List V1, OW w B st eVal v vs /\ vs.length = ls.length /\ ∀ k (h : k < vs.length) (h2 : k < ls.length), OW w B e E vs[k].1 ls[k]
section
variable {α : Type} {w w' : World} {B : Nat} {st e : TypeId} {E : Enc α} {v : Value} {ls : List (List α)}
theorem OWS.nil : OWS w B st e E (.slice none 0 0) ([] : List (List α)) := ⟨[], OW.nil, rfl, fun k h => by simp at h⟩
theorem OWS.kp (h : OWS w B st e E v ls) (hk : Kp w w') : OWS w' B st e E v ls := by
 obtain ⟨vs, h1, h2, h3⟩ := h
 exact ⟨vs, h1.kp hk, h2, fun k a b => (h3 k a b).kp hk⟩
theorem OWS.more {B' : Nat} (h : OWS w B st e E v ls) (hB : B' <= B) : OWS w B' st e E v ls := by
 obtain ⟨vs, h1, h2, h3⟩ := h
 exact ⟨vs, h1.more hB, h2, fun k a b => (h3 k a b).more hB⟩
theorem OWS.rds (h : OWS w B st e E v ls) (hn : ls.length <= maxLen) : RDS w E v ls := by
 obtain ⟨vs, h1, h2, h3⟩ := h
 obtain ⟨A, c, e, a1, a2, a3, a4⟩ := h1.rd
 subst e
 refine ⟨A, c, by rw [h2], by omega, a2, fun h0 => ?_⟩
 obtain ⟨b, o, rfl, hb, hc⟩ := a4 (by omega)
 refine ⟨b, o, rfl, hb, fun k hk => ?_⟩
 have hk2 : k < vs.length := by omega
 refine ⟨vs[k].1, ?_, (h3 k hk2 hk).rd⟩
 have := hc k hk2 0 (by decide)
 simpa [eVal] using this
theorem OWS.app {v' : Value} {u : V1} {l : List α} {vs : List V1} (h1 : OW w B st eVal v vs) (h2 : vs.length = ls.length) (h3 : ∀ k (h : k < vs.length) (h2 : k < ls.length), OW w B e E vs[k].1 ls[k]) (hn : e ≠ st) (hl : OW w B e E u.1 l)
  (ho : OW w' B st eVal v' (vs ++ [u])) (hg : w.grownBy w' v.ownBlock) : OWS w' B st e E v' (ls ++ [l]) := by
 refine ⟨vs ++ [u], ho, by simp [h2], fun k a b => ?_⟩
 by_cases e1 : k < vs.length
 ·rw [List.getElem_append_left e1, List.getElem_append_left (by omega)]
  exact (h3 k e1 (by omega)).kept hg ((h3 k e1 (by omega)).apart h1 hn)
 ·have hk : k = vs.length := by simp at a; omega
  subst hk
  have e2 : (ls ++ [l])[vs.length] = l := by rw [List.getElem_append_right (by omega)]; simp [h2]
  have e3 : (vs ++ [u])[vs.length] = u := by simp
  rw [e2, e3]
  exact hl.kept hg (hl.apart h1 hn)
end
theorem info_ints : (Tryz.prog.info? 69).map (fun i => (i.zero, i.size, i.bytes)) = some (some (.slice none 0 0), 1, 24) := by kernel_rfl
theorem row_ints : Row Tryz.prog 89 69 eVal 24 := row_of info_ints Tryz.underlying89 rfl rfl (by decide)
section
variable (H : Int -> Int) (ks : List Int)
def rowH (r : Nat) : List Int := ks.filter fun k => decide ((r : Int) < H k)
def rowsH (n : Nat) : List (List Int) := ((List.range n).map (rowH H ks)).filter fun l => !l.isEmpty
theorem rowsH_succ (n : Nat) : rowsH H ks (n + 1) = rowsH H ks n ++ if (rowH H ks n).isEmpty then [] else [rowH H ks n] := by
 unfold rowsH
 rw [List.range_succ, List.map_append, List.filter_append]
 cases h : (rowH H ks n).isEmpty <;> simp [List.filter_cons, h]
theorem rowsH_len (n : Nat) : (rowsH H ks n).length <= n := by
 unfold rowsH
 refine Nat.le_trans (List.length_filter_le _ _) ?_
 rw [List.length_map, List.length_range]; omega
theorem rowH_len (r : Nat) : (rowH H ks r).length <= ks.length := List.length_filter_le _ _
theorem rowH_nest {r q : Nat} (h : rowH H ks r = []) (hq : r <= q) : rowH H ks q = [] := by
 unfold rowH at h ⊢
 rw [List.filter_eq_nil_iff] at h ⊢
 intro k hk hc
 refine h k hk ?_
 simp only [decide_eq_true_eq] at hc ⊢
 omega
theorem rowH_top {n : Nat} (h : ∀ k, H k <= n) : rowH H ks n = [] := by
 unfold rowH
 rw [List.filter_eq_nil_iff]
 intro k _ hc
 simp only [decide_eq_true_eq] at hc
 have := h k
 omega
theorem rowsH_range : ∀ n, ∃ R, R <= n /\ rowsH H ks n = (List.range R).map (rowH H ks) /\ (R < n -> rowH H ks R = []) /\ ∀ q, q < R -> rowH H ks q ≠ []
 | 0 => ⟨0, Nat.le_refl _, rfl, fun h => by omega, fun q h => by omega⟩
 | n + 1 => by
  obtain ⟨R, h1, h2, h3, h4⟩ := rowsH_range n
  by_cases e : rowH H ks n = []
  ·refine ⟨R, by omega, by rw [rowsH_succ, e, h2]; simp, fun h => ?_, h4⟩
   by_cases e2 : R = n
   ·rw [e2]; exact e
   ·exact h3 (by omega)
  ·have hR : R = n := by
    by_cases e2 : R = n
    ·exact e2
    ·exact absurd (rowH_nest H ks (h3 (by omega)) h1) e
   subst hR
   refine ⟨R + 1, by omega, ?_, fun h => by omega, fun q hq => ?_⟩
   ·rw [rowsH_succ, h2, List.range_succ, List.map_append]
    have : (rowH H ks R).isEmpty = false := by
     cases h5 : rowH H ks R with
     | nil => exact absurd h5 e
     | cons a l => rfl
    rw [this]; simp
   ·by_cases e2 : q = R
    ·rw [e2]; exact e
    ·exact h4 q (by omega)
end
def rowK (ks : List Int) (r : Nat) : List Int := rowH hgtF ks r
def rowsN (ks : List Int) (n : Nat) : List (List Int) := rowsH hgtF ks n
theorem rowsN_succ (ks : List Int) (n : Nat) : rowsN ks (n + 1) = rowsN ks n ++ if (rowK ks n).isEmpty then [] else [rowK ks n] := rowsH_succ hgtF ks n
theorem rowsN_len (ks : List Int) (n : Nat) : (rowsN ks n).length <= n := rowsH_len hgtF ks n
theorem rowK_len (ks : List Int) (r : Nat) : (rowK ks r).length <= ks.length := rowH_len hgtF ks r
theorem hgt_le (k : Int) : hgtF k <= (12 : Nat) := (hgtF_in k).2
theorem rowK_12 (ks : List Int) : rowK ks 12 = [] := rowH_top hgtF ks hgt_le
theorem rowsN_range (ks : List Int) : ∃ R, R <= 12 /\ rowsN ks 12 = (List.range R).map (rowK ks) /\ (∀ q, R <= q -> rowK ks q = []) /\ ∀ q, q < R -> rowK ks q ≠ [] := by
 obtain ⟨R, h1, h2, h3, h4⟩ := rowsH_range hgtF ks 12
 have h5 : rowK ks R = [] := by
  by_cases e : R < 12
  ·exact h3 e
  ·rw [show R = 12 by omega]; exact rowK_12 ks
 exact ⟨R, h1, h2, fun q hq => rowH_nest hgtF ks h5 hq, h4⟩
def rowT (ts : List Tw) (r i : Nat) : List Int := (((List.range' 1 (i - 1)).filter fun m => decide (r < (tw ts m).h))).map fun m => (tw ts m).p.1
theorem rowT_gap {ts : List Tw} {r a b : Nat} (ha : 1 <= a) (h : a <= b) (hg : ∀ x, a <= x -> x < b -> (tw ts x).h <= r) : rowT ts r b = rowT ts r a := by
 unfold rowT
 have e : List.range' 1 (b - 1) = List.range' 1 (a - 1) ++ List.range' a (b - a) := by
  have := @List.range'_append 1 (a - 1) (b - a) 1
  rw [show 1 + 1 * (a - 1) = a from by omega, show a - 1 + (b - a) = b - 1 from by omega] at this
  exact this.symm
 rw [e, List.filter_append, List.map_append]
 have h2 : (List.range' a (b - a)).filter (fun m => decide (r < (tw ts m).h)) = [] := by
  rw [List.filter_eq_nil_iff]
  intro m hm
  rw [List.mem_range'_1] at hm
  have := hg m (by omega) (by omega)
  simp; omega
 rw [h2]; simp
theorem rowT_at {ts : List Tw} {r a : Nat} (ha : 1 <= a) (h : r < (tw ts a).h) : rowT ts r (a + 1) = rowT ts r a ++ [(tw ts a).p.1] := by
 unfold rowT
 have e : List.range' 1 (a + 1 - 1) = List.range' 1 (a - 1) ++ [a] := by
  have := @List.range'_append 1 (a - 1) 1 1
  rw [show 1 + 1 * (a - 1) = a from by omega, show a - 1 + 1 = a + 1 - 1 from by omega] at this
  exact this.symm
 rw [e, List.filter_append, List.map_append]
 simp [List.filter_cons, h]
theorem rowT_next {ts : List Tw} {r i : Nat} (hi : 1 <= i) (hl : i < ts.length) (h : r < (tw ts i).h) : rowT ts r (nj ts i r) = rowT ts r i ++ [(tw ts i).p.1] := by
 obtain ⟨f1, f2, f3, f4⟩ := nj_facts ts i r hl
 rw [rowT_gap (a := i + 1) (by omega) (by omega) (fun x h1 h2 => f3 x (by omega) h2), rowT_at hi h]
theorem rowT_first {ts : List Tw} {r : Nat} (hl : 0 < ts.length) : rowT ts r (nj ts 0 r) = [] := by
 obtain ⟨f1, f2, f3, f4⟩ := nj_facts ts 0 r hl
 rw [rowT_gap (a := 1) (by omega) (by omega) (fun x h1 h2 => f3 x (by omega) h2)]
 rfl
theorem rowT_len {ts : List Tw} {r i : Nat} (h : i <= 201) : (rowT ts r i).length <= 200 := by
 unfold rowT
 rw [List.length_map]
 refine Nat.le_trans (List.length_filter_le _ _) ?_
 rw [List.length_range']; omega
def keysT (ts : List Tw) : List Int := (pL ts).map Prod.fst
theorem rowT_allH {ts : List Tw} (H : Int -> Int) (r : Nat) (hpos : 0 < ts.length) (hts : ∀ m, 0 < m -> m < ts.length -> ((tw ts m).h : Int) = H (tw ts m).p.1) : rowT ts r ts.length = (keysT ts).filter fun k => decide ((r : Int) < H k) := by
 have e : keysT ts = (List.range' 1 (ts.length - 1)).map fun m => (tw ts m).p.1 := by
  apply List.ext_getElem
  ·simp [keysT, pL_len]
  ·intro k h1 h2
   simp only [keysT, List.getElem_map, pL_at, List.getElem_range']
   rw [show 1 + 1 * k = k + 1 from by omega]
 unfold rowT
 rw [e, List.filter_map]
 congr 1
 apply List.filter_congr
 intro m hm
 rw [List.mem_range'_1] at hm
 have h9 := hts m (by omega) (by omega)
 show decide (r < (tw ts m).h) = decide ((r : Int) < H (tw ts m).p.1)
 rw [decide_eq_decide, <- h9]
 omega
theorem rowT_all {w : World} {s : Nat} {ts : List Tw} {B : Nat} (h : SK w s ts B) (r : Nat) : rowT ts r ts.length = rowK (keysT ts) r :=
 rowT_allH hgtF r h.pos fun m h1 h2 => (h.hts m h1 h2).1
def idxT (ts : List Tw) : Value -> Nat
 | .pointer (some a) => ts.findIdx fun t => t.b == a.block
 | _ => ts.length
theorem idxT_at {w : World} {s : Nat} {ts : List Tw} {B : Nat} (h : SK w s ts B) {i : Nat} (hi : i < ts.length) : idxT ts (.pointer (some ⟨(tw ts i).b, 0, none⟩)) = i := by
 have et : ∀ j (hj : j < ts.length), ts[j] = tw ts j := fun j hj => by simp [tw, List.getD_eq_getElem?_getD, List.getElem?_eq_getElem hj]
 unfold idxT
 rw [List.findIdx_eq hi]
 refine ⟨by rw [et i hi]; simp, fun j hj => ?_⟩
 rw [et j (by omega)]
 cases e : ((tw ts j).b == (tw ts i).b) with
 | false => rfl
 | true =>
  have := h.f.bdj j i (by omega) hi (by simpa using e)
  omega
def AoRel (ts : List Tw) (w : World) (ov kv : Value) (wr : World) : Prop :=
 ∃ r : Nat, r <= 12 /\ kv = .int .i64 (r : Int) /\ OWS wr w.heap.size 69 3 eInt ov (rowsN (keysT ts) r) /\ Kp w wr
def AiRel (ts : List Tw) (r : Nat) (w : World) (lv tv : Value) (wr : World) : Prop :=
 ∃ i : Nat, 1 <= i /\ i <= ts.length /\ (i < ts.length -> r < (tw ts i).h) /\ tv = .pointer (if i < ts.length then some ⟨(tw ts i).b, 0, none⟩ else none) /\ OW wr w.heap.size 3 eInt lv (rowT ts r i) /\ Kp w wr
def RetRDS {α : Type} (E : Enc α) (ls : List (List α)) (w : World) (e : Ending) (w' : World) : Prop := ∃ v, e = .returned v /\ RDS w' E v ls /\ Kp w w'
def RetOWS (ls : List (List Int)) (w : World) (e : Ending) (w' : World) : Prop := ∃ v, e = .returned v /\ OWS w' w.heap.size 69 3 eInt v ls /\ Kp w w'
theorem skAll_ows (s : Nat) (ts : List Tw) (w : World) (B : Nat) (hsk : SK w s ts B) : Calls Tryz.prog 114 #[.pointer (some ⟨s, 0, none⟩)] w (RetOWS (rowsN (keysT ts) 12) w) := by
 have HSK := hide hsk
 have hpos := hsk.pos
 have hlen := hsk.len
 clear hsk
 go_enter Tryz.func114, Tryz.ntmps114
 go_wp2
 go_loopw [3, 7] (AoRel ts w) (fun _ k _ => 12 - (intOf k).toNat)
 case atStart => exact ⟨0, by omega, rfl, OWS.nil, Kp.refl _⟩
 case round =>
  obtain ⟨r, hr, rfl, hows, hkp⟩ := hrel
  have HOWS := hide hows
  have HKP := hide hkp
  have HSKr := hide (HSK.out.kp hkp)
  clear hows
  by_cases hr12 : r < 12
  ·have hh0 : r < (tw ts 0).h := by rw [HSK.out.head]; omega
   have c0 : wr.cell? ⟨s, 0, none⟩ = some (.pointer (some ⟨(tw ts 0).b, 0, none⟩)) := HSKr.out.stk.cell 0
   have d2 := (HSKr.out.f.tower hpos).2.2
   obtain ⟨l0, _⟩ := HSKr.out.f.link hpos hh0
   obtain ⟨f1, f2, f3, f4⟩ := nj_facts ts 0 r hpos
   obtain ⟨i0, hi0⟩ : ∃ i0, i0 = nj ts 0 r := ⟨_, rfl⟩
   have hl0 : (lnk ts 0 r).1 = if i0 < ts.length then some ⟨(tw ts i0).b, 0, none⟩ else none := by unfold lnk; rw [<- hi0]
   rw [hl0] at l0
   have HREL : Hid (AiRel ts r wr (.slice none 0 0) (.pointer (if i0 < ts.length then some ⟨(tw ts i0).b, 0, none⟩ else none)) wr) := hide ⟨i0, by omega, by omega, fun h => by rw [hi0] at h ⊢; exact f4 h, rfl, by rw [hi0, rowT_first hpos]; exact OW.nil, Kp.refl _⟩
   obtain ⟨x0, hx0⟩ : ∃ x0, x0 = (if i0 < ts.length then some (⟨(tw ts i0).b, 0, none⟩ : Addr) else none) := ⟨_, rfl⟩
   rw [<- hx0] at l0 HREL
   have b1 : (r : Int) < ((tw ts 0).h : Int) := by omega
   have b0 : (0 : Int) <= (r : Int) := by omega
   have HHD := hide hh0
   have d12 : decide ((r : Int) < 12) = true := by simp; omega
   clear hl0 hi0 f1 f2 f3 f4 hx0 hkp hh0
   go_wp2
   obtain ⟨w1, hw1⟩ : ∃ w1, w1 = wr := ⟨_, rfl⟩
   have HRS := hide hw1
   go_loopw [5, 6] (AiRel ts r w1) (fun _ tv _ => ts.length - idxT ts tv)
   case atStart => rw [hw1]; exact HREL.out
   case round =>
    clear HREL c0 d2 l0 b1
    obtain ⟨i, hi1, hil, hih, rfl, hol, hkp1⟩ := hrel
    have HK1 := hide hkp1
    have HOL := hide hol
    have hhi := hol.hi
    have hnl := rowT_len (ts := ts) (r := r) (i := i) (by omega)
    by_cases hlt : i < ts.length
    ·rw [if_pos hlt]
     have hri := hih hlt
     have HSK1 := hide (HSK.out.kp (HKP.out.trans (by rw [<- HRS.out]; exact hkp1)))
     have c0 := (HSK1.out.f.tower hlt).1
     have HNX := hide (rowT_next hi1 hlt hri)
     have HIX := hide (idxT_at HSK.out hlt)
     obtain ⟨y, hy⟩ : ∃ y, y = (tw ts i).p.1 := ⟨_, rfl⟩
     have HY := hide hy
     rw [<- hy] at c0
     have HM1 : Hid (((rowT ts r i).length + [y].length) * 8 <= 140737488355328) := hide (by simp; omega)
     have HM2 : Hid ((rowT ts r i).length + [y].length <= maxLen) := hide (by simp [maxLen]; omega)
     have HIH := hide hih
     have HHI := hide hhi
     clear hol hnl hy hih hkp1
     have b1 : (r : Int) < ((tw ts i).h : Int) := by omega
     go_wp2_with ((at_builtin; (with_reducible refine list_app (B := w1.heap.size) (l := (rowT ts r i)) (m := [y]) row_int u5 ?_ (.tmp 31) (.tmp 37) ?_ ?_ ?_ ?_ HM1.out HM2.out ?_ ?_); (with_reducible rfl); (with_reducible rfl); rfl; (exact HOL.out.alloc _); (show RD _ _ (.slice (some ⟨_, 0, none⟩) 1 1) _; (exact RD.auto)); (have := HK1.out.size; simp; omega); intro v3 w3 ho3 hg3 hat3); have kk3 := Kp.app hg3 HK1.out.alloc HHI.out; have HSK3 := hide (HSK.out.kp (HKP.out.trans (by rw [<- HRS.out]; exact kk3))); have HO3 := hide ho3; have d2 := (HSK3.out.f.tower hlt).2.2; obtain ⟨l0, _⟩ := HSK3.out.f.link hlt hri; obtain ⟨x0, hx0⟩ : ∃ x0, x0 = (lnk ts i r).1 := ⟨_, rfl⟩; rw [<- hx0] at l0; have HX0 := hide hx0; have HKK3 := hide kk3; clear ho3 hg3 hat3 hx0 kk3 c0)
     go_roundw
     case rel =>
      obtain ⟨f1, f2, f3, f4⟩ := nj_facts ts i r hlt
      exact ⟨nj ts i r, by omega, by omega, f4, by rw [HX0.out]; rfl, by rw [HNX.out, <- HY.out]; exact HO3.out, HKK3.out⟩
     case measure =>
      obtain ⟨f1, f2, f3, f4⟩ := nj_facts ts i r hlt
      have h1 := HIX.out
      have h2 : ts.length - idxT ts (.pointer x0) < ts.length - i := by
       rw [HX0.out]
       unfold lnk
       by_cases e : nj ts i r < ts.length
       ·rw [if_pos e, idxT_at HSK.out e]; omega
       ·rw [if_neg e]; simp only [idxT]; omega
      show ts.length - idxT ts (.pointer x0) < ts.length - idxT ts (.pointer (some ⟨(tw ts i).b, 0, none⟩))
      rw [h1]
      exact h2
    ·have hrow : Hid (rowT ts r i = rowK (keysT ts) r) := hide (by rw [show i = ts.length from by omega]; exact rowT_all HSK.out r)
     rw [if_neg hlt]
     have HHI := hide hhi
     obtain ⟨A5, c5, rfl, _, _⟩ := hol.rd.shape
     obtain ⟨N5, hN5⟩ : ∃ N5, N5 = (rowT ts r i).length := ⟨_, rfl⟩
     rw [<- hN5] at HOL HHI ⊢
     have HN5 := hide hN5
     have hRS := HRS.out
     have HKW := hide (HKP.out.trans (by rw [<- hRS]; exact hkp1))
     have HOWS2 := hide (HOWS.out.kp (by rw [<- hRS]; exact hkp1))
     have hsz0 : w.heap.size <= w1.heap.size := by rw [hRS]; exact HKP.out.size
     have HSZ0 := hide hsz0
     clear hol hih hkp1 HOWS hw1 hRS hsz0
     by_cases he : N5 = 0
     ·have hrs : Hid (rowsN (keysT ts) (r + 1) = rowsN (keysT ts) r) := hide (by
       rw [rowsN_succ, <- hrow.out]
       have h1 : rowT ts r i = [] := List.eq_nil_of_length_eq_zero (by omega)
       rw [h1]; simp)
      have d1 : decide (0 < N5) = false := by simp [he]
      clear hN5 he hnl
      go_wp2
      go_roundw
      case rel => exact ⟨r + 1, by omega, by go_num, by rw [hrs.out]; exact HOWS2.out, HKW.out⟩
      case measure => simp [intOf] <;> omega
     ·have hrs : Hid (rowsN (keysT ts) (r + 1) = rowsN (keysT ts) r ++ [rowT ts r i]) := hide (by
       rw [rowsN_succ, <- hrow.out]
       have h1 : (rowT ts r i).isEmpty = false := by
        cases e : rowT ts r i with
        | nil => rw [e] at hN5; simp at hN5; omega
        | cons a l => rfl
       rw [h1]; simp)
      have hrl : (rowsN (keysT ts) r).length <= 12 := Nat.le_trans (rowsN_len _ _) (by omega)
      have d1 : decide (0 < N5) = true := by simp; omega
      obtain ⟨vs, hv, hvl, hin⟩ := HOWS2.out
      obtain ⟨A3, c3, hu3, _, _⟩ := hv.rd.shape
      subst hu3
      have hhi3 := hv.hi
      have HV := hide hv
      have HVL := hide hvl
      have HIN := hide hin
      have HM1 : Hid ((vs.length + [(⟨.slice A5 N5 c5, slice_one A5 N5 c5⟩ : V1)].length) * 24 <= 140737488355328) := hide (by simp; omega)
      have HM2 : Hid (vs.length + [(⟨.slice A5 N5 c5, slice_one A5 N5 c5⟩ : V1)].length <= maxLen) := hide (by simp [maxLen]; omega)
      have HHI3 := hide hhi3
      clear hN5 he hnl hv hvl hin hrl hhi3
      go_wp2_with (at_builtin; (with_reducible refine list_app (B := w.heap.size) (l := vs) (m := [(⟨.slice A5 N5 c5, slice_one A5 N5 c5⟩ : V1)]) row_ints (.slice A3 vs.length c3) ?_ (.tmp 42) (.tmp 44) ?_ ?_ ?_ ?_ HM1.out HM2.out ?_ ?_); (with_reducible rfl); (with_reducible rfl); rfl; (exact HV.out.alloc _); (show RD _ _ (.slice (some ⟨_, 0, none⟩) 1 1) _; exact RD.new1e _ (by simp) rfl); (have := HKW.out.size; simp; omega); intro v3 w3 ho3 hg3 hat3)
      go_roundw
      case rel =>
       have kka : Kp wr (wr.alloc (.cells #[.slice A5 N5 c5] 69)) := (Kp.refl _).alloc
       have h1 := OWS.app (u := ⟨.slice A5 N5 c5, slice_one A5 N5 c5⟩) (l := rowT ts r i) (HV.out.kp kka) HVL.out (fun k a b => (HIN.out k a b).kp kka) (by decide) ((HOL.out.more HSZ0.out).kp kka) ho3 hg3
       exact ⟨r + 1, by omega, by go_num, by rw [hrs.out]; exact h1, Kp.app hg3 HKW.out.alloc HHI3.out⟩
      case measure => simp [intOf] <;> omega
  ·obtain rfl : r = 12 := by omega
   go_wp2
   go_ret
   exact ⟨_, rfl, HOWS.out, HKP.out⟩
theorem skAll_any (s : Nat) (ts : List Tw) (w : World) (B : Nat) (hsk : SK w s ts B) : Calls Tryz.prog 114 #[.pointer (some ⟨s, 0, none⟩)] w (RetRDS eInt (rowsN (keysT ts) 12) w) := by
 refine (skAll_ows s ts w B hsk).mono ?_
 rintro e w' ⟨v, rfl, ho, hk⟩
 exact ⟨v, rfl, ho.rds (by have := rowsN_len (keysT ts) 12; unfold maxLen; omega), hk⟩
def rowsOf (ks : List Int) : List (List Int) × Int := if krL ks = 0 then (rowsN ks 12, 0) else ([], krL ks)
def SrPost (r : List (List Int) × Int) (w : World) (e : Ending) (w' : World) : Prop := ∃ v, e = .returned (.tuple #[v, .int .i64 r.2]) /\ RDS w' eInt v r.1 /\ Kp w w'
theorem RDS.nil {α : Type} {w : World} {E : Enc α} : RDS w E (.slice none 0 0) ([] : List (List α)) := ⟨none, 0, rfl, Nat.le_refl _, by decide, fun h => by simp at h⟩
theorem keysT_of {ts : List Tw} {ks : List Int} (h : pL ts = ks.map fun k => (k, 0)) : keysT ts = ks := by
 unfold keysT
 rw [h, List.map_map]
 simp [Function.comp_def]
theorem skRows_any (ks : List Int) (v : Value) (w : World) (hr : RD w eInt v ks) (hdb : DTb w) : Calls Tryz.prog 70 #[v] w (SrPost (rowsOf ks) w) := by
 have HO := hide (skOf_any ks v w hr hdb)
 unfold SoPost at HO
 have h1 : krL ks = 0 -> rowsOf ks = (rowsN ks 12, 0) := fun h => by rw [rowsOf, if_pos h]
 have h2 : krL ks ≠ 0 -> rowsOf ks = ([], krL ks) := fun h => by rw [rowsOf, if_neg h]
 have H1 := hide h1
 have H2 := hide h2
 obtain ⟨er, her⟩ : ∃ er, er = krL ks := ⟨_, rfl⟩
 rw [<- her] at HO H1 H2
 clear hr hdb h1 h2 her
 go_enter Tryz.func70, Tryz.ntmps70
 go_wp2_with fail
 with_reducible refine HO.out.mono ?_
 rintro e w1 (⟨hne, rfl, kk1⟩ | ⟨he0, s, ts, rfl, hsk, hpl, kk1⟩)
 ·have d1 : (er != 0) = true := by simpa using hne
  have HN := hide hne
  clear hne
  go_wp2
  go_ret2
  exact ⟨_, by rw [H2.out HN.out]; rfl, by rw [H2.out HN.out]; exact RDS.nil, kk1⟩
 ·have HN := hide he0
  have HSK := hide hsk
  have HPL := hide (keysT_of hpl)
  clear he0 hsk hpl
  go_wp2_with fail
  with_reducible refine (skAll_any s ts w1 _ HSK.out).mono ?_
  rintro e w2 ⟨v2, rfl, hrds, kk2⟩
  have HR := hide hrds
  clear hrds
  go_wp2
  go_ret2
  exact ⟨v2, by rw [H1.out HN.out]; rfl, by rw [H1.out HN.out, <- HPL.out]; exact HR.out, kk1.trans kk2⟩
theorem krF_pair : ∀ (l : List Int) (la : Int), krF la l = 0 -> l.Pairwise (· < ·) /\ ∀ x ∈ l, la < x /\ x <= 1000000
 | [], _, _ => ⟨List.Pairwise.nil, fun x hx => by cases hx⟩
 | y :: t, la, h => by
  unfold krF at h
  split at h
  ·next hc =>
   obtain ⟨h1, h2⟩ := krF_pair t y h
   refine ⟨List.Pairwise.cons (fun x hx => (h2 x hx).1) h1, fun x hx => ?_⟩
   rcases List.mem_cons.1 hx with rfl | hx
   ·omega
   ·have := h2 x hx; omega
  ·omega
theorem krL_in {l : List Int} (h : krL l = 0) : l.length <= 200 /\ l.Pairwise (· < ·) /\ ∀ x ∈ l, 0 <= x /\ x <= 1000000 := by
 unfold krL at h
 split at h
 ·omega
 ·next hl =>
  obtain ⟨h1, h2⟩ := krF_pair l (-1) h
  exact ⟨by omega, h1, fun x hx => by have := h2 x hx; omega⟩
def stL (l : List Int) (key la : Int) : List Int := l.filter fun k => decide (la + 1 <= k /\ k <= key - 1)
def lastOr (l : List Int) (la : Int) : Int := l.getLast?.getD la
theorem lastOr_nil (la : Int) : lastOr [] la = la := rfl
theorem lastOr_snoc (l : List Int) (y la : Int) : lastOr (l ++ [y]) la = y := by simp [lastOr]
theorem lastOr_mem (l : List Int) (la : Int) : (l = [] /\ lastOr l la = la) ∨ lastOr l la ∈ l := by
 rcases List.eq_nil_or_concat l with rfl | ⟨l', y, rfl⟩
 ·exact .inl ⟨rfl, rfl⟩
 ·right
  rw [List.concat_eq_append, lastOr_snoc]; simp
def stRow (ks : List Int) (key la : Int) (r : Nat) : List Int := stL (rowK ks r) key la
def stAll (ks : List Int) (key : Int) : Nat -> List IP × Int
 | 0 => ([], -1)
 | n + 1 => ((stAll ks key n).1 ++ (stRow ks key (stAll ks key n).2 (11 - n)).map (fun k => (((11 - n : Nat) : Int), k)), lastOr (stRow ks key (stAll ks key n).2 (11 - n)) (stAll ks key n).2)
theorem rowK_mem {ks : List Int} {r : Nat} {x : Int} (h : x ∈ rowK ks r) : x ∈ ks := (List.mem_filter.1 h).1
theorem stAll_in {ks : List Int} (hb : ∀ x ∈ ks, 0 <= x /\ x <= 1000000) (key : Int) : ∀ n, -1 <= (stAll ks key n).2 /\ (stAll ks key n).2 <= 1000000 /\ (stAll ks key n).1.length <= n * ks.length
 | 0 => by simp [stAll]
 | n + 1 => by
  obtain ⟨h1, h2, h3⟩ := stAll_in hb key n
  rw [stAll]
  simp only
  refine ⟨?_, ?_, ?_⟩
  ·rcases lastOr_mem (stRow ks key (stAll ks key n).2 (11 - n)) (stAll ks key n).2 with ⟨_, h⟩ | h
   ·rw [h]; exact h1
   ·have := hb _ (rowK_mem (List.mem_filter.1 h).1); omega
  ·rcases lastOr_mem (stRow ks key (stAll ks key n).2 (11 - n)) (stAll ks key n).2 with ⟨_, h⟩ | h
   ·rw [h]; exact h2
   ·have := hb _ (rowK_mem (List.mem_filter.1 h).1); omega
  ·rw [List.length_append, List.length_map]
   have h4 : (stRow ks key (stAll ks key n).2 (11 - n)).length <= ks.length := Nat.le_trans (List.length_filter_le _ _) (rowK_len _ _)
   rw [Nat.add_mul]; omega
theorem row_stop : Row Tryz.prog 93 96 ePair 16 := row_of (z := .agg #[.int .i64 0, .int .i64 0]) (n := 2) (by kernel_rfl) Tryz.underlying93 rfl rfl (by decide)
theorem path1_any (g B : Nat) (r b : Nat) (k : Int) (acc : List IP) (w : World) (hl : acc.length <= 3000) (x0 : w.cell? ⟨b, 0, none⟩ = some (.int .i64 k)) (hbt : SkB w b) (ho : OB w B g 93 96 ePair acc) (hB : B <= w.heap.size) :
  Calls Tryz.prog 117 #[.int .i64 (r : Int), .pointer (some ⟨b, 0, none⟩), .pointer (some ⟨g, 0, none⟩)] w (WPost B g 93 96 ePair (.tuple #[]) (acc ++ [((r : Int), k)]) w) := by
 have HO := hide ho
 obtain ⟨u, hb, hu, hn⟩ := ho
 have HBh := hide hB
 have HM1 : Hid ((acc.length + [(((r : Int), k) : IP)].length) * 16 <= 140737488355328) := hide (by simp; omega)
 have HM2 : Hid (acc.length + [(((r : Int), k) : IP)].length <= maxLen) := hide (by simp [maxLen]; omega)
 have hblk : u.ownBlock ≠ some b := by
  obtain ⟨t, cs, ht, hc⟩ := hbt
  exact hu.bc_ne hc (by rcases ht with rfl | rfl | rfl <;> decide)
 clear hbt
 have KS : Hid (∀ W', KV u w W' -> (W'.cell? ⟨b, 0, none⟩ = some ((.int .i64 k)) /\ W'.cell? ⟨g, 0, none⟩ = some u /\ W'.frozen? ⟨g, 0, none⟩ = false /\ KV u w W')) := hide fun W' h => ⟨h.cell hblk x0, h.cell hn (hb.cell 0), (h.frozen hb.lt hn).trans (hb.frozen 0), h⟩
 have g0 := hb.cell 0
 have f0 := hb.frozen 0
 have L1 : ∀ n o, ((w.drewN n).alloc o).cell? ⟨g, 0, none⟩ = some u := fun n o => ((Kp.refl w).drewN.alloc).cell g0
 have L2 : ∀ n o', ((w.drewN n).alloc o').cell? ⟨b, 0, none⟩ = some ((.int .i64 k)) := fun n o' => ((Kp.refl w).drewN.alloc).cell x0
 have L3 : ∀ o, (w.drew.alloc o).cell? ⟨g, 0, none⟩ = some u := fun o => ((Kp.refl w).drew.alloc).cell g0
 have L4 : ∀ o', (w.drew.alloc o').cell? ⟨b, 0, none⟩ = some ((.int .i64 k)) := fun o' => ((Kp.refl w).drew.alloc).cell x0
 have L5 : ∀ o, ((w.alloc o).drew).cell? ⟨g, 0, none⟩ = some u := fun o => ((Kp.refl w).alloc.drew).cell g0
 have L6 : ∀ o', ((w.alloc o').drew).cell? ⟨b, 0, none⟩ = some ((.int .i64 k)) := fun o' => ((Kp.refl w).alloc.drew).cell x0
 have L7 : ∀ o, (w.alloc o).cell? ⟨g, 0, none⟩ = some u := fun o => ((Kp.refl w).alloc).cell g0
 have L8 : ∀ o', (w.alloc o').cell? ⟨b, 0, none⟩ = some ((.int .i64 k)) := fun o' => ((Kp.refl w).alloc).cell x0
 go_enter Tryz.func117, Tryz.ntmps117
 go_wp2_with fail
 go_region_law (((with_reducible refine step_app (l := acc) (m := [(((r : Int), k) : IP)]) row_stop u ?_ (.tmp 5) (.tmp 13) ?_ ?_ ?_ ?_ HM1.out HM2.out (Nat.le_trans HBh.out (KV.size (w := w) (v := u) ?_)) ?_); (with_reducible rfl); (with_reducible rfl); rfl; (exact OW.auto); (show RD _ _ (.slice (some ⟨_, 0, none⟩) 1 1) _; (exact RD.auto)); (go_split_ands; (focus ((repeat (first | (with_reducible first | assumption | exact KV.refl _ _ | apply KV.drew | apply KV.drewN | apply KV.alloc) | ((with_reducible apply KV.call); (with_reducible assumption)) | ((with_reducible apply KV.app); (with_reducible assumption)))); done))); intro v3 w3 ho3 hg3 hat3; obtain ⟨_, sc3, sf3, _⟩ := KS.out w3 (by go_split_ands; (focus ((repeat (first | (with_reducible first | assumption | exact KV.refl _ _ | apply KV.drew | apply KV.drewN | apply KV.alloc) | ((with_reducible apply KV.call); (with_reducible assumption)) | ((with_reducible apply KV.app); (with_reducible assumption)))); done))); obtain ⟨A3, N3, c3, rfl⟩ := ho3.rd.slice))
 all_goals
  have hat9 := hat3.imp id (fun e => show Hi w.heap.size (Value.slice A3 N3 c3) from fun k hk => by rw [e] at hk; injection hk with hk; subst hk; simp <;> omega)
  obtain ⟨ho4, hk4⟩ := ob_app hb hu hn (show KV u w w3 by (focus ((repeat (first | (with_reducible first | assumption | exact KV.refl _ _ | apply KV.drew | apply KV.drewN | apply KV.alloc) | ((with_reducible apply KV.call); (with_reducible assumption)) | ((with_reducible apply KV.app); (with_reducible assumption)))); done))) ho3 hat9
  clear hat9 hat3 hg3 ho3 sc3 sf3 L1 L2 L3 L4 L5 L6 L7 L8 g0 f0
  have HO7 := hide ho4
  have HK7 := hide hk4
  clear ho4 hk4
  go_wp2
  refine bodyPost_end (v := .tuple #[]) ?_ ?_ ?_
  ·simp [results, Tryz.results117, go_sem]
  ·rfl
  ·exact ⟨rfl, HO7.out, HK7.out⟩
section
variable (gv : Nat)
theorem find_path (s : Nat) (ts : List Tw) (key : Int) (w : World) (B B0 : Nat) (I : World -> List IP -> Prop) (hsk : SK w s ts B) (hB : B0 <= w.heap.size) (hi : I w [])
  (hcall : ∀ W st r i, st.length <= 3000 -> I W st -> KW B0 w W -> i < ts.length -> SK W s ts B -> Calls Tryz.prog 117 #[.int .i64 (r : Nat), .pointer (some ⟨(tw ts i).b, 0, none⟩), .pointer (some ⟨gv, 0, none⟩)] W (fun e W' => e = .returned (.tuple #[]) /\ I W' (st ++ [(((r : Nat) : Int), (tw ts i).p.1)]) /\ KW B0 W W'))
  (hset : ∀ W W' st, I W st -> KN2 W W' -> I W' st) :
  Calls Tryz.prog 116 #[.pointer (some ⟨s, 0, none⟩), .int .i64 key, .func (.func 117) #[] #[.pointer (some ⟨gv, 0, none⟩)]] w (FiPost s ts key w B0 I) := by
 have HSK := hide hsk
 have HCALL := hide hcall
 have HSET := hide hset
 have c0 : w.cell? ⟨s, 0, none⟩ = some (.pointer (some ⟨(tw ts 0).b, 0, none⟩)) := hsk.stk.cell 0
 have hslt := hsk.stk.lt
 have hlen := hsk.len
 have hpos := hsk.pos
 have HI0 := hide (hset w ((w.alloc (.cells trZ.toArray 169)).alloc (.cells trZ.toArray 169)) [] hi (Kf.of (Kp.refl w).alloc.alloc))
 have HB7 : Hid (BC ((w.alloc (.cells trZ.toArray 169)).alloc (.cells trZ.toArray 169)) (w.heap.size + 1) 169 trZ) := hide (by have h := BC.new (w.alloc (.cells trZ.toArray 169)) 169 trZ; rwa [show (w.alloc (.cells trZ.toArray 169)).heap.size = w.heap.size + 1 by simp] at h)
 have HB6 := hide ((BC.new w 169 trZ).kp (Kp.refl _).alloc (w' := (w.alloc (.cells trZ.toArray 169)).alloc (.cells trZ.toArray 169)))
 clear hsk hcall hset hi
 go_enter Tryz.func116, Tryz.ntmps116
 go_wp2
 go_loopw [8, 9, 10, 11] (FiRel s ts key w B0 I) (fun _ _ k _ _ => (intOf k + 1).toNat)
 case atStart => exact ⟨12, by omega, by rw [pF_12 HSK.out], by rw [pF_12 HSK.out]; rfl, rfl, by rw [trC_12]; exact HB7.out, HB6.out, HI0.out, (KW.refl B0 w).alloc.alloc⟩
 case round =>
  obtain ⟨j, hj, rfl, rfl, rfl, hb7, hb6, hI, hkw⟩ := hrel
  have HKW := hide hkw
  have HSKr := hide (HSK.out.kw hkw)
  have BC7 := hide hb7
  have BC6 := hide hb6
  have HI := hide hI
  clear hb7 hb6 hI hkw
  cases j with
  | zero =>
   have B7H : wr.heap[w.heap.size + 1]? = some (.cells (trC ts key 0).toArray tR (0, 0)) := BC7.out
   have B6H : wr.heap[w.heap.size]? = some (.cells trZ.toArray tR (0, 0)) := BC6.out
   have IT := info_trail ts key (j := 0)
   have T1 := trC_one ts key 0
   have TZ : trZ.toArray.size = (trC ts key 0).toArray.size := by simp [trC_len, trZ]
   go_wp2_with (first
    | ((with_reducible refine wpList_load_row ?_ 169 (.tmp 7) ?_ (w.heap.size + 1) ?_ tR (trC ts key 0).toArray (0, 0) _ B7H Tryz.underlying169 ?_ IT ?_); (with_reducible rfl); (with_reducible rfl); rfl; rfl)
    | ((with_reducible refine wpList_store_row ?_ 169 (.tmp 6) (.tmp 66) ?_ w.heap.size (trC ts key 0).toArray ?_ ?_ tR trZ.toArray B6H IT TZ T1 ?_); (with_reducible rfl); (with_reducible rfl); rfl; rfl))
   refine bodyPost_ret (v := .agg (trC ts key 0).toArray) ?_ ?_ ?_
   ·exact results_cell_row rfl _ _ w.heap.size tR (trC ts key 0).toArray (0, 0) _ rfl (setRow_heap _ _ _ _ _ _ BC6.out) Tryz.underlying169 rfl (info_trail _ _)
   ·rfl
   ·exact ⟨rfl, HSET.out _ _ _ HI.out (KN2.setRow BC6.out _), HKW.out.setRow hB (Nat.le_refl _) _⟩
  | succ r =>
   have e0 : ((r + 1 : Nat) : Int) - 1 = (r : Int) := by omega
   rw [e0]
   have hr12 : r < 12 := by omega
   obtain ⟨hi0, hr0, hl0⟩ := pF_ok (key := key) HSKr.out hr12
   obtain ⟨i0, hi0e⟩ : ∃ i0, i0 = pF ts key (r + 1) := ⟨_, rfl⟩
   have HI0E := hide hi0e
   rw [<- hi0e] at hi0 hr0 hl0 ⊢
   have HL0 := hide hl0
   have d2 := (HSKr.out.f.tower hi0).2.2
   obtain ⟨l0, l1⟩ := HSKr.out.f.link hi0 hr0
   obtain ⟨x0, hx0⟩ : ∃ x, x = (lnk ts i0 r).1 := ⟨_, rfl⟩
   obtain ⟨y0, hy0⟩ : ∃ y, y = (lnk ts i0 r).2 := ⟨_, rfl⟩
   rw [<- hx0] at l0
   rw [<- hy0] at l1
   have HX0 := hide (And.intro hx0 hy0)
   clear hi0e hl0 hx0 hy0 e0
   go_wp2
   have hsz := BC7.out.lt
   go_loopw [8, 9, 11] (FjRel s ts key w B0 I r) (fun _ pv _ _ => ts.length - (intOf pv).toNat)
   case atStart => exact ⟨i0, wr.heap.size, hi0, hr0, HL0.out, by rw [<- HI0E.out]; exact Nat.le_refl _, rfl, rfl, rfl, by omega, by rw [<- HX0.out.1, <- HX0.out.2]; exact BC.new _ _ _, BC7.out.kp (Kp.refl _).alloc, BC6.out.kp (Kp.refl _).alloc, by rw [<- HI0E.out, stopsAt_self, List.append_nil]; exact HSET.out _ _ _ HI.out (Kf.of (Kp.refl _).alloc), HKW.out.alloc⟩
   case round =>
    clear HSKr BC7 BC6 HI HKW HL0 d2 l0 l1 HX0 hsz hi0 hr0 HI0E
    obtain ⟨i, n, hi, hri, hlow, hge, rfl, rfl, rfl, hn, hbn, hb7, hb6, hI, hkw⟩ := hrel
    have HKW := hide hkw
    have HSKr := hide (HSK.out.kw hkw)
    have BC7 := hide hb7
    have BC6 := hide hb6
    have BCN := hide hbn
    have HI := hide hI
    have HLOW := hide hlow
    have n0 := hbn.cell 0
    have n1 := hbn.cell 1
    simp only [List.getElem?_cons_zero, List.getElem?_cons_succ] at n0 n1
    obtain ⟨f1, f2, f3, f4⟩ := nj_facts ts i r hi
    obtain ⟨w1, w2, w3⟩ := lnk_wide ts r hi
    have HF3 := hide f3
    clear hb7 hb6 hI hkw hbn hlow f3
    by_cases hnj : nj ts i r < ts.length
    ·have hp : (lnk ts i r).1 = some ⟨(tw ts (nj ts i r)).b, 0, none⟩ := by unfold lnk; rw [if_pos hnj]
     have hw := w3 hnj
     have hr2 := f4 hnj
     have HNX := hide (stopsAt_next ts r (pF ts key (r + 1)) i hi hge hnj)
     obtain ⟨q, hq⟩ : ∃ q, q = nj ts i r := ⟨_, rfl⟩
     have HQ := hide hq
     obtain ⟨y, hy⟩ : ∃ y, y = (lnk ts i r).2 := ⟨_, rfl⟩
     have HY := hide hy
     rw [hp, <- hq] at n0
     rw [<- hy] at n1 hw
     rw [<- hq] at hw hr2 hnj f1
     have c1 := (HSKr.out.f.tower hnj).1
     have HP := hide hp
     clear hp hq hy w1 w2 w3 f2 f4
     by_cases hk : (tw ts q).p.1 < key
     ·have s1 : IntKind.i64.wrap ((i : Int) + (y : Int)) = ((q : Nat) : Int) := by rw [IntWalk.i64_in _ (by omega)]; omega
      have d1 : decide ((tw ts q).p.1 < key) = true := decide_eq_true hk
      have HCC := hide (fun W st c a b d => HCALL.out W st r q c a b hnj d)
      have HSL := hide (stops_len ts key r i (by omega) hr12 (by omega))
      go_wp2_with (go_at_call 117; ((with_reducible refine (HCC.out _ _ HSL.out HI.out HKW.out HSKr.out).mono ?_); rintro e w5 ⟨rfl, hi5, hk5⟩); have HKW5 := hide (HKW.out.trans hk5); have HSK5 := hide (HSKr.out.kw hk5); have BC75 := hide (hk5.1 _ _ _ (.inr (.inr (.inr rfl))) BC7.out); have BC65 := hide (hk5.1 _ _ _ (.inr (.inr (.inr rfl))) BC6.out); have BCN5 := hide (hk5.1 _ _ _ (.inr (.inl rfl)) BCN.out); have HI5 : Hid (I w5 (stopsN ts key (12 - (r + 1)) ++ stopsAt ts r (pF ts key (r + 1)) q)) := hide (by have h := hi5; rw [List.append_assoc, HQ.out, <- HNX.out, <- HQ.out] at h; exact h); have m0 := BCN5.out.cell 0; have m1 := BCN5.out.cell 1; simp only [List.getElem?_cons_zero, List.getElem?_cons_succ] at m0 m1; have d2 := (HSK5.out.f.tower hnj).2.2; obtain ⟨l0, l1⟩ := HSK5.out.f.link hnj hr2; have blt1 := (HSK5.out.f.tow _ hnj).lt; have blt2 := (HSK5.out.f.lkb _ hnj).lt; obtain ⟨x0, hx0⟩ : ∃ x, x = (lnk ts q r).1 := ⟨_, rfl⟩; obtain ⟨y0, hy0⟩ : ∃ y, y = (lnk ts q r).2 := ⟨_, rfl⟩; rw [<- hx0] at l0; rw [<- hy0] at l1; have HX0 := hide (And.intro hx0 hy0); have HNS := hide (show n < w5.heap.size from BCN5.out.lt); clear hi5 hk5 hx0 hy0 n0 n1 c1)
      go_roundw
      case rel =>
       exact ⟨q, w5.heap.size, hnj, hr2, .inr hk, by omega, rfl, rfl, rfl, by have := HNS.out; omega, by rw [<- HX0.out.1, <- HX0.out.2]; exact BC.new _ _ _, BC75.out.kp (Kp.refl _).alloc, BC65.out.kp (Kp.refl _).alloc, HSET.out _ _ _ HI5.out (Kf.of (Kp.refl _).alloc), HKW5.out.alloc⟩
      case measure => simp [intOf]; omega
     ·have d1 : decide ((tw ts q).p.1 < key) = false := decide_eq_false hk
      have hP : pF ts key r = i := IsP.eq ⟨hi, hri, HLOW.out, fun m g1 g2 g3 => (by
       by_cases e : m = q
       ·subst e; omega
       ·by_cases e2 : m < q
        ·have := HF3.out m g1 (by rw [<- HQ.out]; exact e2); omega
        ·have := HSK.out.up q m (by omega) (by omega) g2; omega)⟩ (.inr trivial)
      have HP := hide hP
      obtain ⟨v1, hv1⟩ : ∃ v, wr.cell? ⟨w.heap.size + 1, r, none⟩ = some v := ⟨_, (BC7.out.cell r).trans (List.getElem?_eq_getElem (by rw [trC_len]; omega))⟩
      obtain ⟨v2, hv2⟩ : ∃ v, wr.cell? ⟨w.heap.size + 1, 12 + r, none⟩ = some v := ⟨_, (BC7.out.cell (12 + r)).trans (List.getElem?_eq_getElem (by rw [trC_len]; omega))⟩
      have fz1 := BC7.out.frozen r
      have fz2 := BC7.out.frozen (12 + r)
      have s5 : IntKind.i64.wrap ((r : Int) - 1) = (r : Int) - 1 := IntWalk.i64_in _ (by omega)
      clear hP
      go_wp2
      go_roundw
      case rel =>
       have h7 := (BC7.out.set (j := r) (u := .pointer (some ⟨(tw ts i).b, 0, none⟩))).set (j := 12 + r) (u := .int .i64 (i : Nat))
       rw [trC_set ts key r i hr12 HP.out] at h7
       exact ⟨r, by omega, by rw [HP.out], by rw [HP.out], rfl, h7, (BC6.out.far (by simp)).far (by simp), by rw [stopsN_next ts key r hr12, HP.out]; exact HSET.out _ _ _ HI.out (Kf.set (Kf.set (Kf.refl _ _) (.inl ⟨_, _, .inr rfl, BC7.out⟩)) (.inl ⟨_, _, .inr rfl, BC7.out⟩)), (HKW.out.set hB (by simp)).set hB (by simp)⟩
      case measure => (simp [intOf] <;> omega)
    ·have hp : (lnk ts i r).1 = none := by unfold lnk; rw [if_neg hnj]
     rw [hp] at n0
     have hP : pF ts key r = i := IsP.eq ⟨hi, hri, HLOW.out, fun m g1 g2 g3 => (by
      have := HF3.out m g1 (by omega); omega)⟩ (.inr trivial)
     clear hp
     have HP := hide hP
     obtain ⟨v1, hv1⟩ : ∃ v, wr.cell? ⟨w.heap.size + 1, r, none⟩ = some v := ⟨_, (BC7.out.cell r).trans (List.getElem?_eq_getElem (by rw [trC_len]; omega))⟩
     obtain ⟨v2, hv2⟩ : ∃ v, wr.cell? ⟨w.heap.size + 1, 12 + r, none⟩ = some v := ⟨_, (BC7.out.cell (12 + r)).trans (List.getElem?_eq_getElem (by rw [trC_len]; omega))⟩
     have fz1 := BC7.out.frozen r
     have fz2 := BC7.out.frozen (12 + r)
     have s5 : IntKind.i64.wrap ((r : Int) - 1) = (r : Int) - 1 := IntWalk.i64_in _ (by omega)
     clear hP
     go_wp2
     go_roundw
     case rel =>
      have h7 := (BC7.out.set (j := r) (u := .pointer (some ⟨(tw ts i).b, 0, none⟩))).set (j := 12 + r) (u := .int .i64 (i : Nat))
      rw [trC_set ts key r i hr12 HP.out] at h7
      exact ⟨r, by omega, by rw [HP.out], by rw [HP.out], rfl, h7, (BC6.out.far (by simp)).far (by simp), by rw [stopsN_next ts key r hr12, HP.out]; exact HSET.out _ _ _ HI.out (Kf.set (Kf.set (Kf.refl _ _) (.inl ⟨_, _, .inr rfl, BC7.out⟩)) (.inl ⟨_, _, .inr rfl, BC7.out⟩)), (HKW.out.set hB (by simp)).set hB (by simp)⟩
     case measure => (simp [intOf] <;> omega)
end
def FpPost (gv B : Nat) (ts : List Tw) (key : Int) (w : World) (e : Ending) (w' : World) : Prop := e = .returned (.agg (trC ts key 0).toArray) /\ OB w' B gv 93 96 ePair (stopsN ts key 12) /\ ∀ a : World, a.heap.size <= B -> Kp a w -> Kp a w'
theorem find_pathK (gv : Nat) (s : Nat) (ts : List Tw) (key : Int) (w : World) (B0 B : Nat) (h : SK w s ts B0) (hB : B <= w.heap.size) (hg : B <= gv) (ho : OB w B gv 93 96 ePair ([] : List IP)) :
  Calls Tryz.prog 116 #[.pointer (some ⟨s, 0, none⟩), .int .i64 key, .func (.func 117) #[] #[.pointer (some ⟨gv, 0, none⟩)]] w (FpPost gv B ts key w) := by
 refine (find_path gv s ts key w B0 B (fun W st => OB W B gv 93 96 ePair st) h hB ho (fun W st r i hl hi hk hil hsk => ?_) (fun W W' st hi hk => ?_)).mono ?_
 ·refine (path1_any gv B r _ _ st W hl (hsk.f.tower hil).1 (hsk.f.tb hil) hi (Nat.le_trans hB hk.2.1)).mono ?_
  rintro e w' ⟨rfl, ho', hko⟩
  refine ⟨rfl, ho', fun i cs t ht hb => ?_, hko.size, fun a ha hka => hi.kp0 hko hka ha hg⟩
  refine hb.ko hi hko ?_ ?_ <;> rcases ht with rfl | rfl | rfl | rfl <;> decide
 ·obtain ⟨v, hb, hv, hn⟩ := hi
  refine ⟨v, hb.kf hk ?_, hv.kf hk ?_, hn⟩
  ·rintro ⟨t, cs, ht, hc⟩
   refine hb.ne hc ?_ rfl
   rcases ht with rfl | rfl <;> decide
  ·rintro k hk2 ⟨t, cs, ht, hc⟩
   refine hv.bc_ne hc ?_ hk2
   rcases ht with rfl | rfl <;> decide
 ·rintro e w' ⟨rfl, ho', hk⟩
  exact ⟨rfl, ho', fun a ha hka => hk.2.2 a ha hka⟩
def laT (ts : List Tw) (i : Nat) : Int := if i = 0 then -1 else (tw ts i).p.1
theorem stops_all {w : World} {s : Nat} {ts : List Tw} {B : Nat} (h : SK w s ts B) (h0 : ∀ i, 0 < i -> i < ts.length -> 0 <= (tw ts i).p.1) (key : Int) : ∀ n, n <= 12 -> stAll (keysT ts) key n = (stopsN ts key n, laT ts (pF ts key (12 - n)))
 | 0, _ => by
  rw [stAll, stopsN, show 12 - 0 = 12 from rfl, pF_12 h]; rfl
 | n + 1, hn => by
  have ih := stops_all h h0 key n (by omega)
  have hlen := h.len
  obtain ⟨r, hr⟩ : ∃ r, r = 11 - n := ⟨_, rfl⟩
  have e1 : 12 - n = r + 1 := by omega
  have e2 : 12 - (n + 1) = r := by omega
  rw [stAll, ih, stopsN, <- hr, e1, e2]
  simp only
  obtain ⟨a1, a2, a3⟩ := pF_ok (key := key) h (r := r) (by omega)
  obtain ⟨b1, b2, b3, b4⟩ := isP_pF (key := key) h (r := r) (by omega)
  obtain ⟨a, ha⟩ : ∃ a, a = pF ts key (r + 1) := ⟨_, rfl⟩
  obtain ⟨b, hb⟩ : ∃ b, b = pF ts key r := ⟨_, rfl⟩
  rw [<- ha] at a1 a2 a3 ⊢
  rw [<- hb] at b1 b2 b3 b4 ⊢
  have hab : a <= b := by
   by_cases e : b < a
   ·have := b4 a e a1 a2
    rcases a3 with a3 | a3 <;> omega
   ·omega
  have hst : stRow (keysT ts) key (laT ts a) r = ((List.range' (a + 1) (b - a)).filter fun m => decide (r < (tw ts m).h)).map fun m => (tw ts m).p.1 := by
   unfold stRow stL
   rw [<- rowT_all h r]
   unfold rowT
   have es : List.range' 1 (ts.length - 1) = List.range' 1 a ++ List.range' (a + 1) (b - a) ++ List.range' (b + 1) (ts.length - 1 - b) := by
    have g1 := @List.range'_append 1 a (b - a) 1
    have g2 := @List.range'_append 1 b (ts.length - 1 - b) 1
    rw [show 1 + 1 * a = a + 1 from by omega, show a + (b - a) = b from by omega] at g1
    rw [show 1 + 1 * b = b + 1 from by omega, show b + (ts.length - 1 - b) = ts.length - 1 from by omega] at g2
    rw [g1, g2]
   rw [List.filter_map, List.filter_filter, es, List.filter_append, List.filter_append]
   have f1 : (List.range' 1 a).filter (fun m => ((fun k => decide (laT ts a + 1 <= k /\ k <= key - 1)) ∘ fun m => (tw ts m).p.1) m && decide (r < (tw ts m).h)) = [] := by
    rw [List.filter_eq_nil_iff]
    intro m hm
    rw [List.mem_range'_1] at hm
    have hle : (tw ts m).p.1 <= laT ts a := by
     unfold laT
     rw [if_neg (by omega)]
     by_cases e : m = a
     ·subst e; omega
     ·have := h.up m a (by omega) (by omega) a1; omega
    simp only [Function.comp, Bool.and_eq_true, decide_eq_true_eq, not_and]
    intro h1; omega
   have f3 : (List.range' (b + 1) (ts.length - 1 - b)).filter (fun m => ((fun k => decide (laT ts a + 1 <= k /\ k <= key - 1)) ∘ fun m => (tw ts m).p.1) m && decide (r < (tw ts m).h)) = [] := by
    rw [List.filter_eq_nil_iff]
    intro m hm
    rw [List.mem_range'_1] at hm
    simp only [Function.comp, Bool.and_eq_true, decide_eq_true_eq, not_and]
    intro h1 h2
    have := b4 m (by omega) (by omega) h2
    omega
   have f2 : (List.range' (a + 1) (b - a)).filter (fun m => ((fun k => decide (laT ts a + 1 <= k /\ k <= key - 1)) ∘ fun m => (tw ts m).p.1) m && decide (r < (tw ts m).h)) = (List.range' (a + 1) (b - a)).filter fun m => decide (r < (tw ts m).h) := by
    apply List.filter_congr
    intro m hm
    rw [List.mem_range'_1] at hm
    have hlo : laT ts a + 1 <= (tw ts m).p.1 := by
     unfold laT
     by_cases e : a = 0
     ·rw [if_pos e]; have := h0 m (by omega) (by omega); omega
     ·rw [if_neg e]; have := h.up a m (by omega) (by omega) (by omega); omega
    have hhi : (tw ts m).p.1 <= key - 1 := by
     have hbk : (tw ts b).p.1 < key := by rcases b3 with b3 | b3 <;> omega
     by_cases e : m = b
     ·subst e; omega
     ·have := h.up m b (by omega) (by omega) b1; omega
    have hd : decide (laT ts a + 1 <= (tw ts m).p.1 /\ (tw ts m).p.1 <= key - 1) = true := decide_eq_true ⟨hlo, hhi⟩
    simp only [Function.comp, hd, Bool.true_and]
   rw [f1, f2, f3]; simp
  rw [hst]
  refine Prod.ext ?_ ?_
  ·simp only
   unfold stopsAt
   rw [List.map_map]; rfl
  ·simp only
   unfold lastOr
   by_cases e : a = b
   ·subst e; simp
   ·have er : List.range' (a + 1) (b - a) = List.range' (a + 1) (b - a - 1) ++ [b] := by
     have g1 := @List.range'_append (a + 1) (b - a - 1) 1 1
     rw [show a + 1 + 1 * (b - a - 1) = b from by omega, show b - a - 1 + 1 = b - a from by omega] at g1
     exact g1.symm
    rw [er, List.filter_append, List.map_append]
    have : (List.filter (fun m => decide (r < (tw ts m).h)) [b]) = [b] := by simp [List.filter_cons, b2]
    rw [this, show laT ts b = (tw ts b).p.1 by unfold laT; rw [if_neg (by omega)]]
    simp
def pathOf (ks : List Int) (key : Int) : List IP × Int := if krL ks = 0 then (if 0 <= key /\ key <= 1000000 then ((stAll ks key 12).1, 0) else ([], 1)) else ([], krL ks)
theorem skPath_any (ks : List Int) (key : Int) (v : Value) (w : World) (hr : RD w eInt v ks) (hdb : DTb w) : Calls Tryz.prog 72 #[v, .int .i64 key] w (Ret2 ePair (pathOf ks key) w) := by
 have HO := hide (skOf_any ks v w hr hdb)
 unfold SoPost at HO
 have h1 : krL ks = 0 -> 0 <= key /\ key <= 1000000 -> pathOf ks key = ((stAll ks key 12).1, 0) := fun h h' => by rw [pathOf, if_pos h, if_pos h']
 have h1' : krL ks = 0 -> ¬ (0 <= key /\ key <= 1000000) -> pathOf ks key = ([], 1) := fun h h' => by rw [pathOf, if_pos h, if_neg h']
 have h2 : krL ks ≠ 0 -> pathOf ks key = ([], krL ks) := fun h => by rw [pathOf, if_neg h]
 have HIN := hide (fun h => (krL_in (l := ks) h).2.2)
 have H1 := hide h1
 have H1' := hide h1'
 have H2 := hide h2
 obtain ⟨er, her⟩ : ∃ er, er = krL ks := ⟨_, rfl⟩
 rw [<- her] at HO H1 H1' H2 HIN
 clear hr hdb h1 h1' h2 her
 by_cases hk : 0 <= key /\ key <= 1000000
 ·have HBT := hide ((btw_iff key 0 1000000).2 hk)
  have HK := hide hk
  clear hk
  go_enter Tryz.func72, Tryz.ntmps72
  go_wp2_with fail
  with_reducible refine HO.out.mono ?_
  rintro e w1 (⟨hne, rfl, kk1⟩ | ⟨he0, s, ts, rfl, hsk, hpl, kk1⟩)
  ·have d1 : (er != 0) = true := by simpa using hne
   have HN := hide hne
   clear hne
   go_wp2
   go_ret2
   exact ⟨_, by rw [H2.out HN.out]; rfl, by rw [H2.out HN.out]; exact RD.nil, kk1.bel⟩
  ·have HN := hide he0
   have HSK := hide hsk
   have HPL := hide hpl
   clear he0 hsk hpl
   go_wp2_with (go_at_call 115; ((with_reducible refine (sk_within_to _ _ _ true _ HBT.out).mono ?_); rintro e w' ⟨rfl, rfl⟩))
   obtain ⟨W, hW⟩ : ∃ W, W = w1.alloc (.cells #[.slice none 0 0] 93) := ⟨_, rfl⟩
   have hob : OB W w1.heap.size w1.heap.size 93 96 ePair ([] : List IP) := by rw [hW]; exact OB.new w1 (Nat.le_refl _)
   have kW : Kp w1 W := by rw [hW]; exact (Kp.refl _).alloc
   have HF := hide (find_pathK w1.heap.size s ts key W _ w1.heap.size (HSK.out.kp kW) kW.size (Nat.le_refl _) hob)
   have HKW := hide kW
   rw [<- hW]
   clear hW hob kW
   with_reducible refine HF.out.mono ?_
   rintro e w3 ⟨rfl, ho3, hk3⟩
   obtain ⟨u3, hb3, hu3, hn3⟩ := ho3
   have g0 := hb3.cell 0
   obtain ⟨A3, N3, c3, rfl⟩ := hu3.rd.slice
   have HU := hide hu3.rd
   have HK3 := hide (hk3 w1 (Nat.le_refl _) HKW.out)
   simp only [List.getElem?_cons_zero] at g0
   clear hb3 hu3 hn3 hk3
   go_wp2
   go_ret2
   have hst := stops_all HSK.out (fun i h1 h2 => (by
    have hm : (tw ts i).p.1 ∈ ks := by
     have h3 : i - 1 < (pL ts).length := by rw [pL_len]; omega
     have h4 := List.getElem_mem h3
     rw [pL_at, show i - 1 + 1 = i from by omega, HPL.out] at h4
     obtain ⟨x, hx, e⟩ := List.mem_map.1 h4
     rw [<- e]; exact hx
    exact (HIN.out HN.out _ hm).1)) key 12 (Nat.le_refl _)
   exact ⟨.slice A3 N3 c3, by rw [H1.out HN.out HK.out]; rfl, by rw [H1.out HN.out HK.out, <- keysT_of HPL.out, hst]; exact HU.out, (kk1.trans HK3.out).bel⟩
 ·have HBT := hide ((btw_f_iff key 0 1000000).2 hk)
  have HK := hide hk
  clear hk
  go_enter Tryz.func72, Tryz.ntmps72
  go_wp2_with fail
  with_reducible refine HO.out.mono ?_
  rintro e w1 (⟨hne, rfl, kk1⟩ | ⟨he0, s, ts, rfl, hsk, hpl, kk1⟩)
  ·have d1 : (er != 0) = true := by simpa using hne
   have HN := hide hne
   clear hne
   go_wp2
   go_ret2
   exact ⟨_, by rw [H2.out HN.out]; rfl, by rw [H2.out HN.out]; exact RD.nil, kk1.bel⟩
  ·have HN := hide he0
   clear he0 hsk hpl
   go_wp2_with (go_at_call 115; ((with_reducible refine (sk_within_to _ _ _ false _ HBT.out).mono ?_); rintro e w' ⟨rfl, rfl⟩))
   go_ret2
   exact ⟨_, by rw [H1'.out HN.out HK.out]; rfl, by rw [H1'.out HN.out HK.out]; exact RD.nil, kk1.bel⟩
end Go.Proofs.YtcljlnagpjilaaaGreatDoor
