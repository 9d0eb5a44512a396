/-
  hedgref.KeysRight, slices.Index, slices.Contains at int: what they answer
  skip.made, skip.of: what they answer
  Slices of slices that are read (RDS)
  A slice of slices that the call owns (OWS): appended to, read (RDS)
  Rows of keys by their heights
  skip.stack.all: what it answers
  skip.Rows: what it answers
-/
import Derived.Test.YtcljlnagpjilaaaGreatDoorG6
import Derived.Test.YtcljlnagpjilaaaGreatDoorG14
import Derived.Test.YtcljlnagpjilaaaGreatDoorG1

set_option linter.unusedVariables false
set_option linter.unusedSimpArgs false
set_option maxRecDepth 100000
set_option maxHeartbeats 8000000
namespace Go.Proofs.YtcljlnagpjilaaaGreatDoor
open Go.ChangeShapes Go.WideShapes Go.ChangeAt Go.RowKit
def krF : Int -> List Int -> Int
 | _, [] => 0
 | la, x :: t => if la + 1 <= x /\ x <= 1000000 then krF x t else 3
def krL (l : List Int) : Int := if l.length > 200 then 2 else krF (-1) l
theorem putL_last {l : List IP} {key v : Int} (h : ∀ p ∈ l, p.1 < key) (hl : l.length < 200) : putL l key v = (l ++ [(key, v)], ⟨0, 0, 0, false⟩) := by
 have hb : below l key = l.length := by
  unfold below
  rw [List.filter_eq_self.2 (fun p hp => by simpa using h p hp)]
 have hh : hasKey l key = false := by
  cases e : hasKey l key with
  | false => rfl
  | true =>
   obtain ⟨p, hp, e2⟩ : ∃ p ∈ l, p.1 = key := by
    unfold hasKey at e
    first
     | (obtain ⟨p, hp, e2⟩ := List.any_eq_true.1 e; exact ⟨p, hp, by simpa using e2⟩)
     | (simp at e; obtain ⟨b, hb⟩ := e; exact ⟨_, hb, rfl⟩)
   have := h p hp; omega
 rw [putL, hh, if_neg (by simp), if_neg (by omega), hb, List.take_length, List.drop_length, List.append_nil]
def MdPost (w : World) (e : Ending) (w' : World) : Prop := ∃ s ts, e = .returned (.pointer (some ⟨s, 0, none⟩)) /\ SK w' s ts w.heap.size /\ pL ts = [] /\ Kp w w'
theorem skMade_any (w : World) : Calls Tryz.prog 157 #[] w (MdPost w) := by
 obtain ⟨CL, hCL, hmk⟩ := mk_links 12 (by omega)
 have HCL := hCL
 have hmk2 : ∀ W : World, (Instr.makeSlice 171 (.int .i64 12) (.int .i64 12)).run Tryz.prog W = .ok (.slice (some ⟨W.heap.size, 0, none⟩) 12 12) (W.alloc (.cells CL 225)) := hmk
 clear hmk hCL
 go_enter Tryz.func157, Tryz.ntmps157
 go_wp2
 go_ret
 obtain ⟨t, ht⟩ : ∃ t : Tw, t = ⟨w.heap.size + 1, w.heap.size, 12, (0, 0)⟩ := ⟨_, rfl⟩
 have hlk : lkC (lnk [t] 0) 12 = lkC (fun _ => (none, 0)) 12 := lkC_congr fun r hr => by
  have hn : nj [t] 0 r = 1 := rfl
  unfold lnk
  rw [hn]; rfl
 have b1 := BC.new w 225 CL.toList
 have b2 := BC.new (w.alloc (.cells CL 225)) 173 [.int .i64 0, .int .i64 0, .slice (some ⟨w.heap.size, 0, none⟩) 12 12]
 have b3 := BC.new ((w.alloc (.cells CL 225)).alloc (.cells #[.int .i64 0, .int .i64 0, .slice (some ⟨w.heap.size, 0, none⟩) 12 12] 173)) 227 [.pointer (some ⟨w.heap.size + 1, 0, none⟩), .int .i64 0, .int .i64 0]
 rw [show (w.alloc (.cells CL 225)).heap.size = w.heap.size + 1 by simp] at b2
 rw [show ((w.alloc (.cells CL 225)).alloc (.cells #[.int .i64 0, .int .i64 0, .slice (some ⟨w.heap.size, 0, none⟩) 12 12] 173)).heap.size = w.heap.size + 2 by simp] at b3
 have b1' : BC (((w.alloc (.cells CL.toList.toArray 225)).alloc (.cells #[.int .i64 0, .int .i64 0, .slice (some ⟨w.heap.size, 0, none⟩) 12 12] 173)).alloc (.cells #[.pointer (some ⟨w.heap.size + 1, 0, none⟩), .int .i64 0, .int .i64 0] 227)) w.heap.size 225 CL.toList := b1.kp (Kp.refl _).alloc.alloc
 have b2' : BC (((w.alloc (.cells CL 225)).alloc (.cells #[.int .i64 0, .int .i64 0, .slice (some ⟨w.heap.size, 0, none⟩) 12 12] 173)).alloc (.cells #[.pointer (some ⟨w.heap.size + 1, 0, none⟩), .int .i64 0, .int .i64 0] 227)) (w.heap.size + 1) 173 _ := b2.kp (Kp.refl _).alloc
 have t0 : ∀ i, i < [t].length -> i = 0 := fun i hi => by simpa using hi
 have e0 : tw [t] 0 = t := rfl
 rw [HCL.out] at b1' b2' b3 ⊢
 refine ⟨w.heap.size + 1 + 1, [t], rfl, ⟨⟨fun i hi => ?_, fun i hi => ?_, fun i j hi hj _ => by rw [t0 i hi, t0 j hj], fun i j hi hj _ => by rw [t0 i hi, t0 j hj], fun i hi => ?_⟩, ?_, by omega, by simp, by simp, ?_, fun i h1 h2 => ?_, fun i j h1 h2 h3 => ?_⟩, rfl, (Kp.refl w).alloc.alloc.alloc⟩
 ·rw [t0 i hi, e0, ht]; exact b2'
 ·rw [t0 i hi, e0, show (t.h) = 12 by rw [ht], hlk, show t.g = w.heap.size by rw [ht]]; exact b1'
 ·rw [t0 i hi, e0, ht]; simp
 ·rw [e0, ht]; exact b3
 ·rw [e0, ht]
 ·have := t0 i h2; omega
 ·have := t0 j h3; omega
def SoPost (keys : List Int) (w : World) (e : Ending) (w' : World) : Prop :=
 (krL keys ≠ 0 /\ e = .returned (.tuple #[.pointer none, .int .i64 (krL keys)]) /\ Kp w w') ∨
 (krL keys = 0 /\ ∃ s ts, e = .returned (.tuple #[.pointer (some ⟨s, 0, none⟩), .int .i64 0]) /\ SK w' s ts w.heap.size /\ pL ts = keys.map (fun k => (k, 0)) /\ Kp w w')
def OfRel (keys : List Int) (w : World) (s : Nat) (iv : Value) (wr : World) : Prop :=
 ∃ (k : Nat) (ts : List Tw) (la : Int), k <= keys.length /\ iv = .int .i64 (k : Int) /\ SK wr s ts w.heap.size /\ pL ts = (keys.take k).map (fun x => (x, 0)) /\ (k = 0 -> la = -1) /\ (∀ j, j + 1 = k -> keys[j]? = some la) /\ -1 <= la /\ la <= 1000000 /\ (∀ x ∈ keys.take k, x <= la) /\ krF la (keys.drop k) = krF (-1) keys /\ Kp w wr
theorem skOf_any (keys : List Int) (v : Value) (w : World) (hr : RD w eInt v keys) (hdb : DTb w) : Calls Tryz.prog 113 #[v] w (SoPost keys w) := by
 obtain ⟨A, c, rfl, hc, hm⟩ := hr.shape
 by_cases hlen : keys.length > 200
 ·have H1 : Hid (krL keys = 2) := hide (by rw [krL, if_pos hlen])
  go_enter Tryz.func113, Tryz.ntmps113
  go_wp2
  go_ret2
  exact .inl ⟨by rw [H1.out]; decide, by rw [H1.out]; rfl, Kp.refl _⟩
 ·have H0 : Hid (krL keys = krF (-1) keys) := hide (by rw [krL, if_neg hlen])
  have HR := hide hr
  have HDB := hide hdb
  clear hr hdb
  go_enter Tryz.func113, Tryz.ntmps113
  go_wp2_with fail
  with_reducible refine (skMade_any w).mono ?_
  rintro e w1 ⟨s, ts1, rfl, hsk1, hpl1, kk1⟩
  have HREL : Hid (OfRel keys w s (.int .i64 0) w1) := hide ⟨0, ts1, -1, by omega, rfl, hsk1, hpl1, fun _ => rfl, fun j h => by omega, by omega, by omega, fun x hx => by simp at hx, rfl, kk1⟩
  clear hsk1 hpl1 kk1
  go_wp2
  go_loopw [13] (OfRel keys w s) (fun i _ => keys.length - (intOf i).toNat)
  case atStart => exact HREL.out
  case round =>
   obtain ⟨k, ts, la, hk, rfl, hsk, hpl, hla0, hla1, g1, g2, hmx, he, hkp⟩ := hrel
   have HKP := hide hkp
   have HSK := hide hsk
   have HPL := hide hpl
   by_cases hlt : k < keys.length
   ·obtain ⟨b, o, rfl, _, c0⟩ := (HR.out.kp hkp).int hlt
    rw [List.drop_eq_getElem_cons hlt, krF] at he
    obtain ⟨y, hy⟩ : ∃ y, y = keys[k] := ⟨_, rfl⟩
    have HY := hide hy
    rw [<- hy] at c0 he
    by_cases hb : 0 <= y /\ y <= 1000000
    ·have HBT := hide ((btw_iff y 0 1000000).2 hb)
     by_cases hgo : la < y
     ·rw [if_pos (by omega)] at he
      have HE := hide he
      have hput : putL (pL ts) y 0 = (pL ts ++ [(y, 0)], ⟨0, 0, 0, false⟩) := putL_last (fun p hp => by
       rw [hpl] at hp
       obtain ⟨x, hx, rfl⟩ := List.mem_map.1 hp
       have := hmx x hx
       simp only; omega) (by rw [hpl]; simp; omega)
      have HPT := hide (skPut_any s ts y 0 wr w.heap.size hsk (HDB.out.kp hkp) hkp.size)
      rw [hput] at HPT
      have HMX := hide hmx
      have hy1 : -1 <= y := by omega
      have hy2 : y <= 1000000 := hb.2
      have HGO := hide hgo
      by_cases hk0 : 0 < k
      ·obtain ⟨p, hp⟩ : ∃ p, p + 1 = k := ⟨k - 1, by omega⟩
       have hpl2 : p < keys.length := by omega
       obtain ⟨b2, o2, e2, _, c1⟩ := (HR.out.kp hkp).int (k := p) hpl2
       injection e2 with e2
       injection e2 with e2 e3
       subst e2 e3
       have hlp := hla1 p hp
       rw [List.getElem?_eq_getElem hpl2] at hlp
       injection hlp with hlp
       rw [hlp] at c1
       have s1 : IntKind.i64.wrap ((k : Int) - 1) = (p : Int) := by rw [IntWalk.i64_in _ (by omega)]; omega
       have gg : decide (0 < k) = true := decide_eq_true hk0
       have gi : decide ((0 : Int) < (k : Int)) = true := by simp; omega
       have d1 : decide (y <= la) = false := decide_eq_false (by omega)
       have d0 : (0 : Int) <= (p : Int) := by omega
       have d2 : (p : Int) < (keys.length : Int) := by omega
       clear hb he hy hsk hpl hla0 hla1 hmx hkp hput hlp hgo hp
       go_wp2_with (go_at_call 115; ((with_reducible refine (sk_within_to _ _ _ true _ HBT.out).mono ?_); rintro e w' ⟨rfl, rfl⟩))
       with_reducible refine HPT.out.mono ?_
       rintro e w2 ⟨ts2, rfl, hsk2, hpl2, hkq⟩
       have HSK2 := hide hsk2
       have HPL2 := hide hpl2
       have HKQ := hide hkq
       clear hsk2 hpl2 hkq
       go_wp2
       have hkp2 : Kp w w2 := HKQ.out.kp HKP.out (Nat.le_refl _)
       refine ⟨⟨_, ts2, y, ?_, by go_num, HSK2.out, ?_, fun h => by omega, fun j h => ?_, hy1, hy2, fun x hx => ?_, HE.out, hkp2⟩, ?_⟩
       ·omega
       ·rw [HPL2.out, HPL.out, List.take_succ_eq_append_getElem hlt, List.map_append, <- HY.out]; rfl
       ·simp only [Nat.add_right_cancel_iff] at h; subst h; rw [List.getElem?_eq_getElem hlt, HY.out]
       ·rw [List.take_succ_eq_append_getElem hlt, <- HY.out] at hx
        rcases List.mem_append.1 hx with hx | hx
        ·have := HMX.out x hx; have := HGO.out; omega
        ·simp at hx; omega
       ·simp [intOf] <;> omega
      ·obtain rfl : k = 0 := by omega
       rw [Nat.add_zero] at c0
       clear hb he hy hsk hpl hla0 hla1 hmx hkp hput hgo
       go_wp2_with (go_at_call 115; ((with_reducible refine (sk_within_to _ _ _ true _ HBT.out).mono ?_); rintro e w' ⟨rfl, rfl⟩))
       with_reducible refine HPT.out.mono ?_
       rintro e w2 ⟨ts2, rfl, hsk2, hpl2, hkq⟩
       have HSK2 := hide hsk2
       have HPL2 := hide hpl2
       have HKQ := hide hkq
       clear hsk2 hpl2 hkq
       go_wp2
       have hkp2 : Kp w w2 := HKQ.out.kp HKP.out (Nat.le_refl _)
       refine ⟨⟨_, ts2, y, ?_, by go_num, HSK2.out, ?_, fun h => by omega, fun j h => ?_, hy1, hy2, fun x hx => ?_, HE.out, hkp2⟩, ?_⟩
       ·omega
       ·rw [HPL2.out, HPL.out, List.take_succ_eq_append_getElem hlt, List.map_append, <- HY.out]; rfl
       ·simp only [Nat.add_right_cancel_iff] at h; subst h; rw [List.getElem?_eq_getElem hlt, HY.out]
       ·rw [List.take_succ_eq_append_getElem hlt, <- HY.out] at hx
        rcases List.mem_append.1 hx with hx | hx
        ·have := HMX.out x hx; have := HGO.out; omega
        ·simp at hx; omega
       ·simp [intOf] <;> omega
     ·have hk0 : 0 < k := by
       by_cases e : k = 0
       ·have := hla0 e; omega
       ·omega
      rw [if_neg (by omega)] at he
      have H1 : Hid (krL keys = 3) := hide (by rw [H0.out, <- he])
      obtain ⟨p, hp⟩ : ∃ p, p + 1 = k := ⟨k - 1, by omega⟩
      have hpl2 : p < keys.length := by omega
      obtain ⟨b2, o2, e2, _, c1⟩ := (HR.out.kp hkp).int (k := p) hpl2
      injection e2 with e2
      injection e2 with e2 e3
      subst e2 e3
      have hlp := hla1 p hp
      rw [List.getElem?_eq_getElem hpl2] at hlp
      injection hlp with hlp
      rw [hlp] at c1
      have s1 : IntKind.i64.wrap ((k : Int) - 1) = (p : Int) := by rw [IntWalk.i64_in _ (by omega)]; omega
      have gg : decide (0 < k) = true := decide_eq_true hk0
      have gi : decide ((0 : Int) < (k : Int)) = true := by simp; omega
      have d1 : decide (y <= la) = true := decide_eq_true (by omega)
      have d0 : (0 : Int) <= (p : Int) := by omega
      have d2 : (p : Int) < (keys.length : Int) := by omega
      clear hb he hy hsk hpl hla0 hla1 hmx hkp hlp hgo hp
      go_wp2_with (go_at_call 115; ((with_reducible refine (sk_within_to _ _ _ true _ HBT.out).mono ?_); rintro e w' ⟨rfl, rfl⟩))
      go_ret2
      exact .inl ⟨by rw [H1.out]; decide, by rw [H1.out]; rfl, HKP.out⟩
    ·have HBT := hide ((btw_f_iff y 0 1000000).2 hb)
     rw [if_neg (by omega)] at he
     have H1 : Hid (krL keys = 3) := hide (by rw [H0.out, <- he])
     clear hb he hy hsk hpl hla0 hla1 hmx hkp
     go_wp2_with (go_at_call 115; ((with_reducible refine (sk_within_to _ _ _ false _ HBT.out).mono ?_); rintro e w' ⟨rfl, rfl⟩))
     go_ret2
     exact .inl ⟨by rw [H1.out]; decide, by rw [H1.out]; rfl, HKP.out⟩
   ·rw [List.drop_eq_nil_of_le (by omega)] at he
    have H1 : Hid (krL keys = 0) := hide (by rw [H0.out, <- he]; rfl)
    have hkl : Hid (pL ts = keys.map (fun k => (k, 0))) := hide (by rw [hpl, List.take_of_length_le (by omega)])
    clear he hsk hpl hla0 hla1 hmx hkp
    go_wp2
    go_ret2
    exact .inr ⟨H1.out, s, ts, rfl, HSK.out, hkl.out, HKP.out⟩
def RDS {α : Type} (w : World) (E : Enc α) (v : Value) (ls : List (List α)) : Prop :=
 ∃ A c, v = .slice A ls.length c /\ ls.length <= c /\ c <= maxLen /\ (0 < ls.length -> ∃ b o, A = some ⟨b, o, none⟩ /\ b < w.heap.size /\
  ∀ k (h : k < ls.length), ∃ u, w.cell? ⟨b, o + k, none⟩ = some u /\ RD w E u ls[k])
section
variable {α : Type} {w w' : World} {E : Enc α} {v : Value} {ls : List (List α)}
theorem RDS.shape (h : RDS w E v ls) : ∃ A c, v = .slice A ls.length c /\ ls.length <= c /\ c <= 9223372036854775807 := by
 obtain ⟨A, c, rfl, h1, h2, h3⟩ := h
 exact ⟨A, c, rfl, h1, by unfold maxLen at h2; omega⟩
theorem RDS.at_ {A : Option Addr} {n c : Nat} (h : RDS w E (.slice A n c) ls) {k : Nat} (hk : k < ls.length) :
  ∃ b o u, A = some ⟨b, o, none⟩ /\ b < w.heap.size /\ w.cell? ⟨b, o + k, none⟩ = some u /\ RD w E u ls[k] := by
 obtain ⟨A', c', e, h1, h2, h3⟩ := h
 injection e with e1 e2 e3
 subst e1
 obtain ⟨b, o, rfl, hb, hc⟩ := h3 (by omega)
 obtain ⟨u, h4, h5⟩ := hc k hk
 exact ⟨b, o, u, rfl, hb, h4, h5⟩
theorem RDS.kp (h : RDS w E v ls) (hb : Kp w w') : RDS w' E v ls := by
 obtain ⟨A, c, rfl, h1, h2, h3⟩ := h
 refine ⟨A, c, rfl, h1, h2, fun h0 => ?_⟩
 obtain ⟨b, o, rfl, hb', hc⟩ := h3 h0
 refine ⟨b, o, rfl, Nat.lt_of_lt_of_le hb' hb.size, fun k hk => ?_⟩
 obtain ⟨u, h4, h5⟩ := hc k hk
 exact ⟨u, hb.cell h4, h5.kp hb⟩
end
abbrev V1 := {v : Value // v.oneCell' = true}
theorem OW.apart {α β : Type} {w : World} {B B' : Nat} {e e' : TypeId} {E : Enc α} {E' : Enc β} {v v' : Value} {l : List α} {l' : List β} (h : OW w B e E v l) (h' : OW w B' e' E' v' l') (hn : e ≠ e') : v.ownBlock = none ∨ v.ownBlock ≠ v'.ownBlock := by
 rcases h.2 with ⟨rfl, _⟩ | ⟨g, cap, cur, rfl, hg, hh, r⟩
 ·exact .inl rfl
 ·rcases h'.2 with ⟨rfl, _⟩ | ⟨g', cap', cur', rfl, hg', hh', r'⟩
  ·right; simp [Value.ownBlock]
  ·right
   intro e1
   injection e1 with e1
   subst e1
   rw [hh] at hh'
   injection hh' with hh'
   injection hh' with _ e2
   exact hn e2
theorem slice_one (A : Option Addr) (n c : Nat) : (Value.slice A n c).oneCell' = true := rfl
def OWS {α : Type} (w : World) (B : Nat) (st e : TypeId) (E : Enc α) (v : Value) (ls : List (List α)) : Prop :=
 ∃ vs : List V1, OW w B st eVal v vs /\ vs.length = ls.length /\ ∀ k (h : k < vs.length) (h2 : k < ls.length), OW w B e E vs[k].1 ls[k]
section
variable {α : Type} {w w' : World} {B : Nat} {st e : TypeId} {E : Enc α} {v : Value} {ls : List (List α)}
theorem OWS.nil : OWS w B st e E (.slice none 0 0) ([] : List (List α)) := ⟨[], OW.nil, rfl, fun k h => by simp at h⟩
theorem OWS.kp (h : OWS w B st e E v ls) (hk : Kp w w') : OWS w' B st e E v ls := by
 obtain ⟨vs, h1, h2, h3⟩ := h
 exact ⟨vs, h1.kp hk, h2, fun k a b => (h3 k a b).kp hk⟩
theorem OWS.more {B' : Nat} (h : OWS w B st e E v ls) (hB : B' <= B) : OWS w B' st e E v ls := by
 obtain ⟨vs, h1, h2, h3⟩ := h
 exact ⟨vs, h1.more hB, h2, fun k a b => (h3 k a b).more hB⟩
theorem OWS.rds (h : OWS w B st e E v ls) (hn : ls.length <= maxLen) : RDS w E v ls := by
 obtain ⟨vs, h1, h2, h3⟩ := h
 obtain ⟨A, c, e, a1, a2, a3, a4⟩ := h1.rd
 subst e
 refine ⟨A, c, by rw [h2], by omega, a2, fun h0 => ?_⟩
 obtain ⟨b, o, rfl, hb, hc⟩ := a4 (by omega)
 refine ⟨b, o, rfl, hb, fun k hk => ?_⟩
 have hk2 : k < vs.length := by omega
 refine ⟨vs[k].1, ?_, (h3 k hk2 hk).rd⟩
 have := hc k hk2 0 (by decide)
 simpa [eVal] using this
theorem OWS.app {v' : Value} {u : V1} {l : List α} {vs : List V1} (h1 : OW w B st eVal v vs) (h2 : vs.length = ls.length) (h3 : ∀ k (h : k < vs.length) (h2 : k < ls.length), OW w B e E vs[k].1 ls[k]) (hn : e ≠ st) (hl : OW w B e E u.1 l)
  (ho : OW w' B st eVal v' (vs ++ [u])) (hg : w.grownBy w' v.ownBlock) : OWS w' B st e E v' (ls ++ [l]) := by
 refine ⟨vs ++ [u], ho, by simp [h2], fun k a b => ?_⟩
 by_cases e1 : k < vs.length
 ·rw [List.getElem_append_left e1, List.getElem_append_left (by omega)]
  exact (h3 k e1 (by omega)).kept hg ((h3 k e1 (by omega)).apart h1 hn)
 ·have hk : k = vs.length := by simp at a; omega
  subst hk
  have e2 : (ls ++ [l])[vs.length] = l := by rw [List.getElem_append_right (by omega)]; simp [h2]
  have e3 : (vs ++ [u])[vs.length] = u := by simp
  rw [e2, e3]
  exact hl.kept hg (hl.apart h1 hn)
end
theorem info_ints : (Tryz.prog.info? 69).map (fun i => (i.zero, i.size, i.bytes)) = some (some (.slice none 0 0), 1, 24) := by kernel_rfl
theorem row_ints : Row Tryz.prog 89 69 eVal 24 := row_of info_ints Tryz.underlying89 rfl rfl (by decide)
section
variable (H : Int -> Int) (ks : List Int)
def rowH (r : Nat) : List Int := ks.filter fun k => decide ((r : Int) < H k)
def rowsH (n : Nat) : List (List Int) := ((List.range n).map (rowH H ks)).filter fun l => !l.isEmpty
theorem rowsH_succ (n : Nat) : rowsH H ks (n + 1) = rowsH H ks n ++ if (rowH H ks n).isEmpty then [] else [rowH H ks n] := by
 unfold rowsH
 rw [List.range_succ, List.map_append, List.filter_append]
 cases h : (rowH H ks n).isEmpty <;> simp [List.filter_cons, h]
theorem rowsH_len (n : Nat) : (rowsH H ks n).length <= n := by
 unfold rowsH
 refine Nat.le_trans (List.length_filter_le _ _) ?_
 rw [List.length_map, List.length_range]; omega
theorem rowH_len (r : Nat) : (rowH H ks r).length <= ks.length := List.length_filter_le _ _
theorem rowH_nest {r q : Nat} (h : rowH H ks r = []) (hq : r <= q) : rowH H ks q = [] := by
 unfold rowH at h ⊢
 rw [List.filter_eq_nil_iff] at h ⊢
 intro k hk hc
 refine h k hk ?_
 simp only [decide_eq_true_eq] at hc ⊢
 omega
theorem rowH_top {n : Nat} (h : ∀ k, H k <= n) : rowH H ks n = [] := by
 unfold rowH
 rw [List.filter_eq_nil_iff]
 intro k _ hc
 simp only [decide_eq_true_eq] at hc
 have := h k
 omega
theorem rowsH_range : ∀ n, ∃ R, R <= n /\ rowsH H ks n = (List.range R).map (rowH H ks) /\ (R < n -> rowH H ks R = []) /\ ∀ q, q < R -> rowH H ks q ≠ []
 | 0 => ⟨0, Nat.le_refl _, rfl, fun h => by omega, fun q h => by omega⟩
 | n + 1 => by
  obtain ⟨R, h1, h2, h3, h4⟩ := rowsH_range n
  by_cases e : rowH H ks n = []
  ·refine ⟨R, by omega, by rw [rowsH_succ, e, h2]; simp, fun h => ?_, h4⟩
   by_cases e2 : R = n
   ·rw [e2]; exact e
   ·exact h3 (by omega)
  ·have hR : R = n := by
    by_cases e2 : R = n
    ·exact e2
    ·exact absurd (rowH_nest H ks (h3 (by omega)) h1) e
   subst hR
   refine ⟨R + 1, by omega, ?_, fun h => by omega, fun q hq => ?_⟩
   ·rw [rowsH_succ, h2, List.range_succ, List.map_append]
    have : (rowH H ks R).isEmpty = false := by
     cases h5 : rowH H ks R with
     | nil => exact absurd h5 e
     | cons a l => rfl
    rw [this]; simp
   ·by_cases e2 : q = R
    ·rw [e2]; exact e
    ·exact h4 q (by omega)
theorem rowsH_is {n r : Nat} (hn : ∀ k, H k <= n) (h1 : rowH H ks r = []) (h2 : ∀ q, q < r -> rowH H ks q ≠ []) : rowsH H ks n = (List.range r).map (rowH H ks) := by
 obtain ⟨R, g1, g2, g3, g4⟩ := rowsH_range H ks n
 have e : R = r := by
  rcases Nat.lt_trichotomy R r with h | h | h
  ·refine absurd ?_ (h2 R h)
   by_cases e : R < n
   ·exact g3 e
   ·rw [show R = n by omega]; exact rowH_top H ks hn
  ·exact h
  ·exact absurd h1 (g4 r h)
 rw [g2, e]
theorem rowH_take (r k : Nat) (h : k < ks.length) : rowH H (ks.take (k + 1)) r = rowH H (ks.take k) r ++ if (r : Int) < H ks[k] then [ks[k]] else [] := by
 unfold rowH
 rw [List.take_succ_eq_append_getElem h, List.filter_append]
 congr 1
 by_cases e : (r : Int) < H ks[k] <;> simp [e]
end
def rowK (ks : List Int) (r : Nat) : List Int := rowH hgtF ks r
def rowsN (ks : List Int) (n : Nat) : List (List Int) := rowsH hgtF ks n
theorem rowsN_succ (ks : List Int) (n : Nat) : rowsN ks (n + 1) = rowsN ks n ++ if (rowK ks n).isEmpty then [] else [rowK ks n] := rowsH_succ hgtF ks n
theorem rowsN_len (ks : List Int) (n : Nat) : (rowsN ks n).length <= n := rowsH_len hgtF ks n
theorem rowK_len (ks : List Int) (r : Nat) : (rowK ks r).length <= ks.length := rowH_len hgtF ks r
theorem hgt_le (k : Int) : hgtF k <= (12 : Nat) := (hgtF_in k).2
theorem rowK_12 (ks : List Int) : rowK ks 12 = [] := rowH_top hgtF ks hgt_le
theorem rowsN_is {ks : List Int} {r : Nat} (h1 : rowK ks r = []) (h2 : ∀ q, q < r -> rowK ks q ≠ []) : rowsN ks 12 = (List.range r).map (rowK ks) := rowsH_is hgtF ks hgt_le h1 h2
theorem rowsN_range (ks : List Int) : ∃ R, R <= 12 /\ rowsN ks 12 = (List.range R).map (rowK ks) /\ (∀ q, R <= q -> rowK ks q = []) /\ ∀ q, q < R -> rowK ks q ≠ [] := by
 obtain ⟨R, h1, h2, h3, h4⟩ := rowsH_range hgtF ks 12
 have h5 : rowK ks R = [] := by
  by_cases e : R < 12
  ·exact h3 e
  ·rw [show R = 12 by omega]; exact rowK_12 ks
 exact ⟨R, h1, h2, fun q hq => rowH_nest hgtF ks h5 hq, h4⟩
theorem rowK_take (ks : List Int) (r k : Nat) (h : k < ks.length) : rowK (ks.take (k + 1)) r = rowK (ks.take k) r ++ if (r : Int) < hgtF ks[k] then [ks[k]] else [] := rowH_take hgtF ks r k h
def rowT (ts : List Tw) (r i : Nat) : List Int := (((List.range' 1 (i - 1)).filter fun m => decide (r < (tw ts m).h))).map fun m => (tw ts m).p.1
theorem rowT_gap {ts : List Tw} {r a b : Nat} (ha : 1 <= a) (h : a <= b) (hg : ∀ x, a <= x -> x < b -> (tw ts x).h <= r) : rowT ts r b = rowT ts r a := by
 unfold rowT
 have e : List.range' 1 (b - 1) = List.range' 1 (a - 1) ++ List.range' a (b - a) := by
  have := @List.range'_append 1 (a - 1) (b - a) 1
  rw [show 1 + 1 * (a - 1) = a from by omega, show a - 1 + (b - a) = b - 1 from by omega] at this
  exact this.symm
 rw [e, List.filter_append, List.map_append]
 have h2 : (List.range' a (b - a)).filter (fun m => decide (r < (tw ts m).h)) = [] := by
  rw [List.filter_eq_nil_iff]
  intro m hm
  rw [List.mem_range'_1] at hm
  have := hg m (by omega) (by omega)
  simp; omega
 rw [h2]; simp
theorem rowT_at {ts : List Tw} {r a : Nat} (ha : 1 <= a) (h : r < (tw ts a).h) : rowT ts r (a + 1) = rowT ts r a ++ [(tw ts a).p.1] := by
 unfold rowT
 have e : List.range' 1 (a + 1 - 1) = List.range' 1 (a - 1) ++ [a] := by
  have := @List.range'_append 1 (a - 1) 1 1
  rw [show 1 + 1 * (a - 1) = a from by omega, show a - 1 + 1 = a + 1 - 1 from by omega] at this
  exact this.symm
 rw [e, List.filter_append, List.map_append]
 simp [List.filter_cons, h]
theorem rowT_next {ts : List Tw} {r i : Nat} (hi : 1 <= i) (hl : i < ts.length) (h : r < (tw ts i).h) : rowT ts r (nj ts i r) = rowT ts r i ++ [(tw ts i).p.1] := by
 obtain ⟨f1, f2, f3, f4⟩ := nj_facts ts i r hl
 rw [rowT_gap (a := i + 1) (by omega) (by omega) (fun x h1 h2 => f3 x (by omega) h2), rowT_at hi h]
theorem rowT_first {ts : List Tw} {r : Nat} (hl : 0 < ts.length) : rowT ts r (nj ts 0 r) = [] := by
 obtain ⟨f1, f2, f3, f4⟩ := nj_facts ts 0 r hl
 rw [rowT_gap (a := 1) (by omega) (by omega) (fun x h1 h2 => f3 x (by omega) h2)]
 rfl
theorem rowT_len {ts : List Tw} {r i : Nat} (h : i <= 201) : (rowT ts r i).length <= 200 := by
 unfold rowT
 rw [List.length_map]
 refine Nat.le_trans (List.length_filter_le _ _) ?_
 rw [List.length_range']; omega
def keysT (ts : List Tw) : List Int := (pL ts).map Prod.fst
theorem rowT_allH {ts : List Tw} (H : Int -> Int) (r : Nat) (hpos : 0 < ts.length) (hts : ∀ m, 0 < m -> m < ts.length -> ((tw ts m).h : Int) = H (tw ts m).p.1) : rowT ts r ts.length = (keysT ts).filter fun k => decide ((r : Int) < H k) := by
 have e : keysT ts = (List.range' 1 (ts.length - 1)).map fun m => (tw ts m).p.1 := by
  apply List.ext_getElem
  ·simp [keysT, pL_len]
  ·intro k h1 h2
   simp only [keysT, List.getElem_map, pL_at, List.getElem_range']
   rw [show 1 + 1 * k = k + 1 from by omega]
 unfold rowT
 rw [e, List.filter_map]
 congr 1
 apply List.filter_congr
 intro m hm
 rw [List.mem_range'_1] at hm
 have h9 := hts m (by omega) (by omega)
 show decide (r < (tw ts m).h) = decide ((r : Int) < H (tw ts m).p.1)
 rw [decide_eq_decide, <- h9]
 omega
theorem rowT_all {w : World} {s : Nat} {ts : List Tw} {B : Nat} (h : SK w s ts B) (r : Nat) : rowT ts r ts.length = rowK (keysT ts) r :=
 rowT_allH hgtF r h.pos fun m h1 h2 => (h.hts m h1 h2).1
def idxT (ts : List Tw) : Value -> Nat
 | .pointer (some a) => ts.findIdx fun t => t.b == a.block
 | _ => ts.length
theorem idxT_at {w : World} {s : Nat} {ts : List Tw} {B : Nat} (h : SK w s ts B) {i : Nat} (hi : i < ts.length) : idxT ts (.pointer (some ⟨(tw ts i).b, 0, none⟩)) = i := by
 have et : ∀ j (hj : j < ts.length), ts[j] = tw ts j := fun j hj => by simp [tw, List.getD_eq_getElem?_getD, List.getElem?_eq_getElem hj]
 unfold idxT
 rw [List.findIdx_eq hi]
 refine ⟨by rw [et i hi]; simp, fun j hj => ?_⟩
 rw [et j (by omega)]
 cases e : ((tw ts j).b == (tw ts i).b) with
 | false => rfl
 | true =>
  have := h.f.bdj j i (by omega) hi (by simpa using e)
  omega
def AoRel (ts : List Tw) (w : World) (ov kv : Value) (wr : World) : Prop :=
 ∃ r : Nat, r <= 12 /\ kv = .int .i64 (r : Int) /\ OWS wr w.heap.size 69 3 eInt ov (rowsN (keysT ts) r) /\ Kp w wr
def AiRel (ts : List Tw) (r : Nat) (w : World) (lv tv : Value) (wr : World) : Prop :=
 ∃ i : Nat, 1 <= i /\ i <= ts.length /\ (i < ts.length -> r < (tw ts i).h) /\ tv = .pointer (if i < ts.length then some ⟨(tw ts i).b, 0, none⟩ else none) /\ OW wr w.heap.size 3 eInt lv (rowT ts r i) /\ Kp w wr
def RetRDS {α : Type} (E : Enc α) (ls : List (List α)) (w : World) (e : Ending) (w' : World) : Prop := ∃ v, e = .returned v /\ RDS w' E v ls /\ Kp w w'
def RetOWS (ls : List (List Int)) (w : World) (e : Ending) (w' : World) : Prop := ∃ v, e = .returned v /\ OWS w' w.heap.size 69 3 eInt v ls /\ Kp w w'
theorem skAll_ows (s : Nat) (ts : List Tw) (w : World) (B : Nat) (hsk : SK w s ts B) : Calls Tryz.prog 114 #[.pointer (some ⟨s, 0, none⟩)] w (RetOWS (rowsN (keysT ts) 12) w) := by
 have HSK := hide hsk
 have hpos := hsk.pos
 have hlen := hsk.len
 clear hsk
 go_enter Tryz.func114, Tryz.ntmps114
 go_wp2
 go_loopw [3, 7] (AoRel ts w) (fun _ k _ => 12 - (intOf k).toNat)
 case atStart => exact ⟨0, by omega, rfl, OWS.nil, Kp.refl _⟩
 case round =>
  obtain ⟨r, hr, rfl, hows, hkp⟩ := hrel
  have HOWS := hide hows
  have HKP := hide hkp
  have HSKr := hide (HSK.out.kp hkp)
  clear hows
  by_cases hr12 : r < 12
  ·have hh0 : r < (tw ts 0).h := by rw [HSK.out.head]; omega
   have c0 : wr.cell? ⟨s, 0, none⟩ = some (.pointer (some ⟨(tw ts 0).b, 0, none⟩)) := HSKr.out.stk.cell 0
   have d2 := (HSKr.out.f.tower hpos).2.2
   obtain ⟨l0, _⟩ := HSKr.out.f.link hpos hh0
   obtain ⟨f1, f2, f3, f4⟩ := nj_facts ts 0 r hpos
   obtain ⟨i0, hi0⟩ : ∃ i0, i0 = nj ts 0 r := ⟨_, rfl⟩
   have hl0 : (lnk ts 0 r).1 = if i0 < ts.length then some ⟨(tw ts i0).b, 0, none⟩ else none := by unfold lnk; rw [<- hi0]
   rw [hl0] at l0
   have HREL : Hid (AiRel ts r wr (.slice none 0 0) (.pointer (if i0 < ts.length then some ⟨(tw ts i0).b, 0, none⟩ else none)) wr) := hide ⟨i0, by omega, by omega, fun h => by rw [hi0] at h ⊢; exact f4 h, rfl, by rw [hi0, rowT_first hpos]; exact OW.nil, Kp.refl _⟩
   obtain ⟨x0, hx0⟩ : ∃ x0, x0 = (if i0 < ts.length then some (⟨(tw ts i0).b, 0, none⟩ : Addr) else none) := ⟨_, rfl⟩
   rw [<- hx0] at l0 HREL
   have b1 : (r : Int) < ((tw ts 0).h : Int) := by omega
   have b0 : (0 : Int) <= (r : Int) := by omega
   have HHD := hide hh0
   have d12 : decide ((r : Int) < 12) = true := by simp; omega
   clear hl0 hi0 f1 f2 f3 f4 hx0 hkp hh0
   go_wp2
   obtain ⟨w1, hw1⟩ : ∃ w1, w1 = wr := ⟨_, rfl⟩
   have HRS := hide hw1
   go_loopw [5, 6] (AiRel ts r w1) (fun _ tv _ => ts.length - idxT ts tv)
   case atStart => rw [hw1]; exact HREL.out
   case round =>
    clear HREL c0 d2 l0 b1
    obtain ⟨i, hi1, hil, hih, rfl, hol, hkp1⟩ := hrel
    have HK1 := hide hkp1
    have HOL := hide hol
    have hhi := hol.hi
    have hnl := rowT_len (ts := ts) (r := r) (i := i) (by omega)
    by_cases hlt : i < ts.length
    ·rw [if_pos hlt]
     have hri := hih hlt
     have HSK1 := hide (HSK.out.kp (HKP.out.trans (by rw [<- HRS.out]; exact hkp1)))
     have c0 := (HSK1.out.f.tower hlt).1
     have HNX := hide (rowT_next hi1 hlt hri)
     have HIX := hide (idxT_at HSK.out hlt)
     obtain ⟨y, hy⟩ : ∃ y, y = (tw ts i).p.1 := ⟨_, rfl⟩
     have HY := hide hy
     rw [<- hy] at c0
     have HM1 : Hid (((rowT ts r i).length + [y].length) * 8 <= 140737488355328) := hide (by simp; omega)
     have HM2 : Hid ((rowT ts r i).length + [y].length <= maxLen) := hide (by simp [maxLen]; omega)
     have HIH := hide hih
     have HHI := hide hhi
     clear hol hnl hy hih hkp1
     have b1 : (r : Int) < ((tw ts i).h : Int) := by omega
     go_wp2_with ((at_builtin; (with_reducible refine list_app (B := w1.heap.size) (l := (rowT ts r i)) (m := [y]) row_int u5 ?_ (.tmp 31) (.tmp 37) ?_ ?_ ?_ ?_ HM1.out HM2.out ?_ ?_); (with_reducible rfl); (with_reducible rfl); rfl; (exact HOL.out.alloc _); (show RD _ _ (.slice (some ⟨_, 0, none⟩) 1 1) _; (exact RD.auto)); (have := HK1.out.size; simp; omega); intro v3 w3 ho3 hg3 hat3); have kk3 := Kp.app hg3 HK1.out.alloc HHI.out; have HSK3 := hide (HSK.out.kp (HKP.out.trans (by rw [<- HRS.out]; exact kk3))); have HO3 := hide ho3; have d2 := (HSK3.out.f.tower hlt).2.2; obtain ⟨l0, _⟩ := HSK3.out.f.link hlt hri; obtain ⟨x0, hx0⟩ : ∃ x0, x0 = (lnk ts i r).1 := ⟨_, rfl⟩; rw [<- hx0] at l0; have HX0 := hide hx0; have HKK3 := hide kk3; clear ho3 hg3 hat3 hx0 kk3 c0)
     go_roundw
     case rel =>
      obtain ⟨f1, f2, f3, f4⟩ := nj_facts ts i r hlt
      exact ⟨nj ts i r, by omega, by omega, f4, by rw [HX0.out]; rfl, by rw [HNX.out, <- HY.out]; exact HO3.out, HKK3.out⟩
     case measure =>
      obtain ⟨f1, f2, f3, f4⟩ := nj_facts ts i r hlt
      have h1 := HIX.out
      have h2 : ts.length - idxT ts (.pointer x0) < ts.length - i := by
       rw [HX0.out]
       unfold lnk
       by_cases e : nj ts i r < ts.length
       ·rw [if_pos e, idxT_at HSK.out e]; omega
       ·rw [if_neg e]; simp only [idxT]; omega
      show ts.length - idxT ts (.pointer x0) < ts.length - idxT ts (.pointer (some ⟨(tw ts i).b, 0, none⟩))
      rw [h1]
      exact h2
    ·have hrow : Hid (rowT ts r i = rowK (keysT ts) r) := hide (by rw [show i = ts.length from by omega]; exact rowT_all HSK.out r)
     rw [if_neg hlt]
     have HHI := hide hhi
     obtain ⟨A5, c5, rfl, _, _⟩ := hol.rd.shape
     obtain ⟨N5, hN5⟩ : ∃ N5, N5 = (rowT ts r i).length := ⟨_, rfl⟩
     rw [<- hN5] at HOL HHI ⊢
     have HN5 := hide hN5
     have hRS := HRS.out
     have HKW := hide (HKP.out.trans (by rw [<- hRS]; exact hkp1))
     have HOWS2 := hide (HOWS.out.kp (by rw [<- hRS]; exact hkp1))
     have hsz0 : w.heap.size <= w1.heap.size := by rw [hRS]; exact HKP.out.size
     have HSZ0 := hide hsz0
     clear hol hih hkp1 HOWS hw1 hRS hsz0
     by_cases he : N5 = 0
     ·have hrs : Hid (rowsN (keysT ts) (r + 1) = rowsN (keysT ts) r) := hide (by
       rw [rowsN_succ, <- hrow.out]
       have h1 : rowT ts r i = [] := List.eq_nil_of_length_eq_zero (by omega)
       rw [h1]; simp)
      have d1 : decide (0 < N5) = false := by simp [he]
      clear hN5 he hnl
      go_wp2
      go_roundw
      case rel => exact ⟨r + 1, by omega, by go_num, by rw [hrs.out]; exact HOWS2.out, HKW.out⟩
      case measure => simp [intOf] <;> omega
     ·have hrs : Hid (rowsN (keysT ts) (r + 1) = rowsN (keysT ts) r ++ [rowT ts r i]) := hide (by
       rw [rowsN_succ, <- hrow.out]
       have h1 : (rowT ts r i).isEmpty = false := by
        cases e : rowT ts r i with
        | nil => rw [e] at hN5; simp at hN5; omega
        | cons a l => rfl
       rw [h1]; simp)
      have hrl : (rowsN (keysT ts) r).length <= 12 := Nat.le_trans (rowsN_len _ _) (by omega)
      have d1 : decide (0 < N5) = true := by simp; omega
      obtain ⟨vs, hv, hvl, hin⟩ := HOWS2.out
      obtain ⟨A3, c3, hu3, _, _⟩ := hv.rd.shape
      subst hu3
      have hhi3 := hv.hi
      have HV := hide hv
      have HVL := hide hvl
      have HIN := hide hin
      have HM1 : Hid ((vs.length + [(⟨.slice A5 N5 c5, slice_one A5 N5 c5⟩ : V1)].length) * 24 <= 140737488355328) := hide (by simp; omega)
      have HM2 : Hid (vs.length + [(⟨.slice A5 N5 c5, slice_one A5 N5 c5⟩ : V1)].length <= maxLen) := hide (by simp [maxLen]; omega)
      have HHI3 := hide hhi3
      clear hN5 he hnl hv hvl hin hrl hhi3
      go_wp2_with (at_builtin; (with_reducible refine list_app (B := w.heap.size) (l := vs) (m := [(⟨.slice A5 N5 c5, slice_one A5 N5 c5⟩ : V1)]) row_ints (.slice A3 vs.length c3) ?_ (.tmp 42) (.tmp 44) ?_ ?_ ?_ ?_ HM1.out HM2.out ?_ ?_); (with_reducible rfl); (with_reducible rfl); rfl; (exact HV.out.alloc _); (show RD _ _ (.slice (some ⟨_, 0, none⟩) 1 1) _; exact RD.new1e _ (by simp) rfl); (have := HKW.out.size; simp; omega); intro v3 w3 ho3 hg3 hat3)
      go_roundw
      case rel =>
       have kka : Kp wr (wr.alloc (.cells #[.slice A5 N5 c5] 69)) := (Kp.refl _).alloc
       have h1 := OWS.app (u := ⟨.slice A5 N5 c5, slice_one A5 N5 c5⟩) (l := rowT ts r i) (HV.out.kp kka) HVL.out (fun k a b => (HIN.out k a b).kp kka) (by decide) ((HOL.out.more HSZ0.out).kp kka) ho3 hg3
       exact ⟨r + 1, by omega, by go_num, by rw [hrs.out]; exact h1, Kp.app hg3 HKW.out.alloc HHI3.out⟩
      case measure => simp [intOf] <;> omega
  ·obtain rfl : r = 12 := by omega
   go_wp2
   go_ret
   exact ⟨_, rfl, HOWS.out, HKP.out⟩
theorem skAll_any (s : Nat) (ts : List Tw) (w : World) (B : Nat) (hsk : SK w s ts B) : Calls Tryz.prog 114 #[.pointer (some ⟨s, 0, none⟩)] w (RetRDS eInt (rowsN (keysT ts) 12) w) := by
 refine (skAll_ows s ts w B hsk).mono ?_
 rintro e w' ⟨v, rfl, ho, hk⟩
 exact ⟨v, rfl, ho.rds (by have := rowsN_len (keysT ts) 12; unfold maxLen; omega), hk⟩
def rowsOf (ks : List Int) : List (List Int) × Int := if krL ks = 0 then (rowsN ks 12, 0) else ([], krL ks)
def SrPost (r : List (List Int) × Int) (w : World) (e : Ending) (w' : World) : Prop := ∃ v, e = .returned (.tuple #[v, .int .i64 r.2]) /\ RDS w' eInt v r.1 /\ Kp w w'
theorem RDS.nil {α : Type} {w : World} {E : Enc α} : RDS w E (.slice none 0 0) ([] : List (List α)) := ⟨none, 0, rfl, Nat.le_refl _, by decide, fun h => by simp at h⟩
theorem keysT_of {ts : List Tw} {ks : List Int} (h : pL ts = ks.map fun k => (k, 0)) : keysT ts = ks := by
 unfold keysT
 rw [h, List.map_map]
 simp [Function.comp_def]
theorem skRows_any (ks : List Int) (v : Value) (w : World) (hr : RD w eInt v ks) (hdb : DTb w) : Calls Tryz.prog 70 #[v] w (SrPost (rowsOf ks) w) := by
 have HO := hide (skOf_any ks v w hr hdb)
 unfold SoPost at HO
 have h1 : krL ks = 0 -> rowsOf ks = (rowsN ks 12, 0) := fun h => by rw [rowsOf, if_pos h]
 have h2 : krL ks ≠ 0 -> rowsOf ks = ([], krL ks) := fun h => by rw [rowsOf, if_neg h]
 have H1 := hide h1
 have H2 := hide h2
 obtain ⟨er, her⟩ : ∃ er, er = krL ks := ⟨_, rfl⟩
 rw [<- her] at HO H1 H2
 clear hr hdb h1 h2 her
 go_enter Tryz.func70, Tryz.ntmps70
 go_wp2_with fail
 with_reducible refine HO.out.mono ?_
 rintro e w1 (⟨hne, rfl, kk1⟩ | ⟨he0, s, ts, rfl, hsk, hpl, kk1⟩)
 ·have d1 : (er != 0) = true := by simpa using hne
  have HN := hide hne
  clear hne
  go_wp2
  go_ret2
  exact ⟨_, by rw [H2.out HN.out]; rfl, by rw [H2.out HN.out]; exact RDS.nil, kk1⟩
 ·have HN := hide he0
  have HSK := hide hsk
  have HPL := hide (keysT_of hpl)
  clear he0 hsk hpl
  go_wp2_with fail
  with_reducible refine (skAll_any s ts w1 _ HSK.out).mono ?_
  rintro e w2 ⟨v2, rfl, hrds, kk2⟩
  have HR := hide hrds
  clear hrds
  go_wp2
  go_ret2
  exact ⟨v2, by rw [H1.out HN.out]; rfl, by rw [H1.out HN.out, <- HPL.out]; exact HR.out, kk1.trans kk2⟩
end Go.Proofs.YtcljlnagpjilaaaGreatDoor
