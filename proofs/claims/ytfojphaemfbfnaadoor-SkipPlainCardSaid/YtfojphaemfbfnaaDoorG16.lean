/-
  hedgref.KeysRight, slices.Index, slices.Contains at int: what they answer. Conditions: the list reads as l (RD).
  skip.made, skip.of: what they answer. Conditions: the keys read as ints (RD); the table of math/bits holds what it is laid with (DTb).
  Slices of slices that are read (RDS). Conditions: none.
  A slice of slices that the call owns (OWS): appended to, read (RDS). Conditions: none.
  Rows of keys by their heights. No program. Conditions: none.
-/
import Derived.Test.YtfojphaemfbfnaaDoorG6
import Derived.Test.YtfojphaemfbfnaaDoorG15
import Derived.Test.YtfojphaemfbfnaaDoorG1
import Derived.Test.YtfojphaemfbfnaaDoorG2

namespace Go.Proofs.YtfojphaemfbfnaaDoor
open Go.ChangeShapes Go.WideShapes Go.ChangeAt Go.RowKit
set_option linter.unusedVariables false
set_option linter.unusedSimpArgs false

def krF : Int → List Int → Int
  | _, [] => 0
  | la, x :: t => if la + 1 ≤ x ∧ x ≤ 1000000 then krF x t else 3
def krL (l : List Int) : Int := if l.length > 200 then 2 else krF (-1) l
def KrRel (l : List Int) (w : World) (lv iv : Value) (wr : World) : Prop := ∃ (k : Nat) (la : Int), k ≤ l.length ∧ iv = .int .i64 k ∧ lv = .int .i64 la ∧ -1 ≤ la ∧ la ≤ 1000000 ∧ krF la (l.drop k) = krF (-1) l ∧ w = wr
set_option maxRecDepth 100000 in
set_option maxHeartbeats 2000000 in
theorem keysRight_any (l : List Int) (v : Value) (w : World) (hr : RD w eInt v l) : Calls Tryd.prog 13 #[v] w (Ret (.int .i64 (krL l)) w) := by
  obtain ⟨A, c, rfl, hc, hm⟩ := hr.shape
  by_cases hlen : l.length > 200
  · have H1 : Hid (krL l = 2) := hide (by rw [krL, if_pos hlen])
    clear hr
    go_enter Tryd.func13, Tryd.ntmps13
    go_wp2
    go_ret
    exact ⟨by rw [H1.out]; rfl, Below.refl _ _⟩
  · have H0 : Hid (krL l = krF (-1) l) := hide (by rw [krL, if_neg hlen])
    have HR := hide hr
    clear hr
    go_enter Tryd.func13, Tryd.ntmps13
    go_wp2
    go_loopw [3, 11] (KrRel l w) (fun _ i _ => l.length - (intOf i).toNat)
    case atStart => exact ⟨0, -1, by omega, rfl, rfl, by omega, by omega, rfl, rfl⟩
    case round =>
      obtain ⟨k, la, hk, rfl, rfl, g1, g2, he, rfl⟩ := hrel
      by_cases hlt : k < l.length
      · obtain ⟨b, o, rfl, _, c0⟩ := HR.out.int hlt
        rw [List.drop_eq_getElem_cons hlt, krF] at he
        obtain ⟨y, hy⟩ : ∃ y, y = l[k] := ⟨_, rfl⟩
        rw [← hy] at c0 he
        have hwl : IntKind.i64.wrap (la + 1) = la + 1 := IntWalk.i64_in _ (by omega)
        by_cases hb : la + 1 ≤ y ∧ y ≤ 1000000
        · rw [if_pos hb] at he
          have HE := hide he
          have HBT := hide ((btw_iff y (la + 1) 1000000).2 hb)
          have hy1 : -1 ≤ y := by omega
          have hy2 : y ≤ 1000000 := hb.2
          clear hb he hy
          go_wp2_with (go_at_call 16; refine (between_to _ _ _ true _ HBT.out).mono ?_; rintro e w' ⟨rfl, rfl⟩)
          go_roundw
          case rel => exact ⟨k + 1, y, by omega, by go_num, rfl, hy1, hy2, HE.out, rfl⟩
          case measure => simp [intOf]; omega
        · rw [if_neg hb] at he
          have H1 : Hid (krL l = 3) := hide (by rw [H0.out, ← he])
          have HBT := hide ((btw_f_iff y (la + 1) 1000000).2 hb)
          clear hb he hy
          go_wp2_with (go_at_call 16; refine (between_to _ _ _ false _ HBT.out).mono ?_; rintro e w' ⟨rfl, rfl⟩)
          go_ret
          exact ⟨by rw [H1.out]; rfl, Below.refl _ _⟩
      · rw [List.drop_eq_nil_of_le (by omega)] at he
        have H1 : Hid (krL l = 0) := hide (by rw [H0.out, ← he]; rfl)
        clear he
        go_wp2
        go_ret
        exact ⟨by rw [H1.out]; rfl, Below.refl _ _⟩
def IxRel (l : List Int) (y : Int) (w : World) (iv : Value) (wr : World) : Prop := ∃ k : Nat, k ≤ l.length ∧ iv = .int .i64 k ∧ y ∉ l.take k ∧ w = wr
set_option maxRecDepth 100000 in
set_option maxHeartbeats 1000000 in
theorem index_any (l : List Int) (y : Int) (v : Value) (w : World) (hr : RD w eInt v l) : Calls Tryd.prog 44 #[v, .int .i64 y] w fun e w' => ∃ i : Int, e = .returned (.int .i64 i) ∧ (0 ≤ i ↔ y ∈ l) ∧ w = w' := by
  obtain ⟨A, c, rfl, hc, hm⟩ := hr.shape
  have HR := hide hr
  clear hr
  go_enter Tryd.func44, Tryd.ntmps44
  go_wp2
  go_loopw [8] (IxRel l y w) (fun i _ => l.length - (intOf i).toNat)
  case atStart => exact ⟨0, by omega, rfl, by simp, rfl⟩
  case round =>
    obtain ⟨k, hk, rfl, hno, rfl⟩ := hrel
    have HNO := hide hno
    clear hno
    by_cases hlt : k < l.length
    · obtain ⟨b, o, rfl, _, c0⟩ := HR.out.int hlt
      have HT : Hid (l.take (k + 1) = l.take k ++ [l[k]]) := hide (List.take_succ_eq_append_getElem hlt)
      have HMM : Hid (l[k] ∈ l) := hide (List.getElem_mem hlt)
      obtain ⟨x, hx⟩ : ∃ x, x = l[k] := ⟨_, rfl⟩
      rw [← hx] at c0 HT HMM
      clear hx
      by_cases hxy : y = x
      · have b0 : (y == x) = true := by simp [hxy]
        have HXY := hide hxy
        clear hxy
        go_wp2
        go_ret
        exact ⟨(k : Int), rfl, ⟨fun _ => by rw [HXY.out]; exact HMM.out, fun _ => by omega⟩, rfl⟩
      · have b0 : (y == x) = false := by simpa using hxy
        have HXY := hide hxy
        clear hxy
        go_wp2
        go_roundw
        case rel => exact ⟨k + 1, by omega, by go_num, by rw [HT.out]; simp only [List.mem_append, List.mem_singleton]; rintro (h | h); exact HNO.out h; exact HXY.out h, rfl⟩
        case measure => simp [intOf]; omega
    · have HN : Hid (y ∉ l) := hide (by have := HNO.out; rwa [List.take_of_length_le (by omega)] at this)
      go_wp2
      go_ret
      exact ⟨-1, rfl, ⟨fun h => by omega, fun h => absurd h HN.out⟩, rfl⟩
set_option maxRecDepth 100000 in
set_option maxHeartbeats 1000000 in
theorem contains_any (l : List Int) (y : Int) (v : Value) (w : World) (hr : RD w eInt v l) : Calls Tryd.prog 26 #[v, .int .i64 y] w (Ret (.bool (decide (y ∈ l))) w) := by
  have HI := hide (index_any l y v w hr)
  clear hr
  go_enter Tryd.func26, Tryd.ntmps26
  go_wp2_with fail
  with_reducible refine HI.out.mono ?_
  rintro e w1 ⟨i, rfl, hi, rfl⟩
  have HD : Hid (decide (y ∈ l) = decide (0 ≤ i)) := hide (by simp [hi])
  clear hi
  go_wp2
  go_ret
  exact ⟨by rw [HD.out]; rfl, Below.refl _ _⟩

end Go.Proofs.YtfojphaemfbfnaaDoor
namespace Go.Proofs.YtfojphaemfbfnaaDoor
open Go.ChangeShapes Go.WideShapes Go.ChangeAt Go.RowKit
set_option linter.unusedVariables false
set_option linter.unusedSimpArgs false

theorem putL_last {l : List IP} {key v : Int} (h : ∀ p ∈ l, p.1 < key) (hl : l.length < 200) : putL l key v = (l ++ [(key, v)], ⟨0, 0, 0, false⟩) := by
  have hb : below l key = l.length := by
    unfold below
    rw [List.filter_eq_self.2 (fun p hp => by simpa using h p hp)]
  have hh : hasKey l key = false := by
    cases e : hasKey l key with
    | false => rfl
    | true =>
      obtain ⟨p, hp, e2⟩ : ∃ p ∈ l, p.1 = key := by
        unfold hasKey at e
        first
          | (obtain ⟨p, hp, e2⟩ := List.any_eq_true.1 e; exact ⟨p, hp, by simpa using e2⟩)
          | (simp at e; obtain ⟨b, hb⟩ := e; exact ⟨_, hb, rfl⟩)
      have := h p hp; omega
  rw [putL, hh, if_neg (by simp), if_neg (by omega), hb, List.take_length, List.drop_length, List.append_nil]

def MdPost (w : World) (e : Ending) (w' : World) : Prop := ∃ s ts, e = .returned (.pointer (some ⟨s, 0, none⟩)) ∧ SK w' s ts w.heap.size ∧ pL ts = [] ∧ Kp w w'
set_option maxRecDepth 100000 in
set_option maxHeartbeats 1000000 in
theorem skMade_any (w : World) : Calls Tryd.prog 40 #[] w (MdPost w) := by
  obtain ⟨CL, hCL, hmk⟩ := mk_links 12 (by omega)
  have HCL := hCL
  have hmk2 : ∀ W : World, (Instr.makeSlice 74 (.int .i64 12) (.int .i64 12)).run Tryd.prog W = .ok (.slice (some ⟨W.heap.size, 0, none⟩) 12 12) (W.alloc (.cells CL 91)) := hmk
  clear hmk hCL
  go_enter Tryd.func40, Tryd.ntmps40
  go_wp2
  go_ret
  obtain ⟨t, ht⟩ : ∃ t : Tw, t = ⟨w.heap.size + 1, w.heap.size, 12, (0, 0)⟩ := ⟨_, rfl⟩
  have hlk : lkC (lnk [t] 0) 12 = lkC (fun _ => (none, 0)) 12 := lkC_congr fun r hr => by
    have hn : nj [t] 0 r = 1 := rfl
    unfold lnk
    rw [hn]; rfl
  have b1 := BC.new w 91 CL.toList
  have b2 := BC.new (w.alloc (.cells CL 91)) 76 [.int .i64 0, .int .i64 0, .slice (some ⟨w.heap.size, 0, none⟩) 12 12]
  have b3 := BC.new ((w.alloc (.cells CL 91)).alloc (.cells #[.int .i64 0, .int .i64 0, .slice (some ⟨w.heap.size, 0, none⟩) 12 12] 76)) 93 [.pointer (some ⟨w.heap.size + 1, 0, none⟩), .int .i64 0, .int .i64 0]
  rw [show (w.alloc (.cells CL 91)).heap.size = w.heap.size + 1 by simp] at b2
  rw [show ((w.alloc (.cells CL 91)).alloc (.cells #[.int .i64 0, .int .i64 0, .slice (some ⟨w.heap.size, 0, none⟩) 12 12] 76)).heap.size = w.heap.size + 2 by simp] at b3
  have b1' : BC (((w.alloc (.cells CL.toList.toArray 91)).alloc (.cells #[.int .i64 0, .int .i64 0, .slice (some ⟨w.heap.size, 0, none⟩) 12 12] 76)).alloc (.cells #[.pointer (some ⟨w.heap.size + 1, 0, none⟩), .int .i64 0, .int .i64 0] 93)) w.heap.size 91 CL.toList := b1.kp (Kp.refl _).alloc.alloc
  have b2' : BC (((w.alloc (.cells CL 91)).alloc (.cells #[.int .i64 0, .int .i64 0, .slice (some ⟨w.heap.size, 0, none⟩) 12 12] 76)).alloc (.cells #[.pointer (some ⟨w.heap.size + 1, 0, none⟩), .int .i64 0, .int .i64 0] 93)) (w.heap.size + 1) 76 _ := b2.kp (Kp.refl _).alloc
  have t0 : ∀ i, i < [t].length → i = 0 := fun i hi => by simpa using hi
  have e0 : tw [t] 0 = t := rfl
  rw [HCL.out] at b1' b2' b3 ⊢
  refine ⟨w.heap.size + 1 + 1, [t], rfl, ⟨⟨fun i hi => ?_, fun i hi => ?_, fun i j hi hj _ => by rw [t0 i hi, t0 j hj], fun i j hi hj _ => by rw [t0 i hi, t0 j hj], fun i hi => ?_⟩, ?_, by omega, by simp, by simp, ?_, fun i h1 h2 => ?_, fun i j h1 h2 h3 => ?_⟩, rfl, (Kp.refl w).alloc.alloc.alloc⟩
  · rw [t0 i hi, e0, ht]; exact b2'
  · rw [t0 i hi, e0, show (t.h) = 12 by rw [ht], hlk, show t.g = w.heap.size by rw [ht]]; exact b1'
  · rw [t0 i hi, e0, ht]; simp
  · rw [e0, ht]; exact b3
  · rw [e0, ht]
  · have := t0 i h2; omega
  · have := t0 j h3; omega
def SoPost (keys : List Int) (w : World) (e : Ending) (w' : World) : Prop :=
  (krL keys ≠ 0 ∧ e = .returned (.tuple #[.pointer none, .int .i64 (krL keys)]) ∧ Kp w w') ∨
  (krL keys = 0 ∧ ∃ s ts, e = .returned (.tuple #[.pointer (some ⟨s, 0, none⟩), .int .i64 0]) ∧ SK w' s ts w.heap.size ∧ pL ts = keys.map (fun k => (k, 0)) ∧ Kp w w')
def OfRel (keys : List Int) (w : World) (s : Nat) (iv : Value) (wr : World) : Prop :=
  ∃ (k : Nat) (ts : List Tw) (la : Int), k ≤ keys.length ∧ iv = .int .i64 (k : Int) ∧ SK wr s ts w.heap.size ∧ pL ts = (keys.take k).map (fun x => (x, 0)) ∧ (k = 0 → la = -1) ∧ (∀ j, j + 1 = k → keys[j]? = some la) ∧ -1 ≤ la ∧ la ≤ 1000000 ∧ (∀ x ∈ keys.take k, x ≤ la) ∧ krF la (keys.drop k) = krF (-1) keys ∧ Kp w wr
set_option maxRecDepth 100000 in
set_option maxHeartbeats 4000000 in
theorem skOf_any (keys : List Int) (v : Value) (w : World) (hr : RD w eInt v keys) (hdb : DTb w) : Calls Tryd.prog 29 #[v] w (SoPost keys w) := by
  obtain ⟨A, c, rfl, hc, hm⟩ := hr.shape
  by_cases hlen : keys.length > 200
  · have H1 : Hid (krL keys = 2) := hide (by rw [krL, if_pos hlen])
    go_enter Tryd.func29, Tryd.ntmps29
    go_wp2
    go_ret2
    exact .inl ⟨by rw [H1.out]; decide, by rw [H1.out]; rfl, Kp.refl _⟩
  · have H0 : Hid (krL keys = krF (-1) keys) := hide (by rw [krL, if_neg hlen])
    have HR := hide hr
    have HDB := hide hdb
    clear hr hdb
    go_enter Tryd.func29, Tryd.ntmps29
    go_wp2_with fail
    with_reducible refine (skMade_any w).mono ?_
    rintro e w1 ⟨s, ts1, rfl, hsk1, hpl1, kk1⟩
    have HREL : Hid (OfRel keys w s (.int .i64 0) w1) := hide ⟨0, ts1, -1, by omega, rfl, hsk1, hpl1, fun _ => rfl, fun j h => by omega, by omega, by omega, fun x hx => by simp at hx, rfl, kk1⟩
    clear hsk1 hpl1 kk1
    go_wp2
    go_loopw [13] (OfRel keys w s) (fun i _ => keys.length - (intOf i).toNat)
    case atStart => exact HREL.out
    case round =>
      obtain ⟨k, ts, la, hk, rfl, hsk, hpl, hla0, hla1, g1, g2, hmx, he, hkp⟩ := hrel
      have HKP := hide hkp
      have HSK := hide hsk
      have HPL := hide hpl
      by_cases hlt : k < keys.length
      · obtain ⟨b, o, rfl, _, c0⟩ := (HR.out.kp hkp).int hlt
        rw [List.drop_eq_getElem_cons hlt, krF] at he
        obtain ⟨y, hy⟩ : ∃ y, y = keys[k] := ⟨_, rfl⟩
        have HY := hide hy
        rw [← hy] at c0 he
        by_cases hb : 0 ≤ y ∧ y ≤ 1000000
        · have HBT := hide ((btw_iff y 0 1000000).2 hb)
          by_cases hgo : la < y
          · rw [if_pos (by omega)] at he
            have HE := hide he
            have hput : putL (pL ts) y 0 = (pL ts ++ [(y, 0)], ⟨0, 0, 0, false⟩) := putL_last (fun p hp => by
              rw [hpl] at hp
              obtain ⟨x, hx, rfl⟩ := List.mem_map.1 hp
              have := hmx x hx
              simp only; omega) (by rw [hpl]; simp; omega)
            have HPT := hide (skPut_any s ts y 0 wr w.heap.size hsk (HDB.out.kp hkp) hkp.size)
            rw [hput] at HPT
            have HMX := hide hmx
            have hy1 : -1 ≤ y := by omega
            have hy2 : y ≤ 1000000 := hb.2
            have HGO := hide hgo
            by_cases hk0 : 0 < k
            · obtain ⟨p, hp⟩ : ∃ p, p + 1 = k := ⟨k - 1, by omega⟩
              have hpl2 : p < keys.length := by omega
              obtain ⟨b2, o2, e2, _, c1⟩ := (HR.out.kp hkp).int (k := p) hpl2
              injection e2 with e2
              injection e2 with e2 e3
              subst e2 e3
              have hlp := hla1 p hp
              rw [List.getElem?_eq_getElem hpl2] at hlp
              injection hlp with hlp
              rw [hlp] at c1
              have s1 : IntKind.i64.wrap ((k : Int) - 1) = (p : Int) := by rw [IntWalk.i64_in _ (by omega)]; omega
              have gg : decide (0 < k) = true := decide_eq_true hk0
              have gi : decide ((0 : Int) < (k : Int)) = true := by simp; omega
              have d1 : decide (y ≤ la) = false := decide_eq_false (by omega)
              have d0 : (0 : Int) ≤ (p : Int) := by omega
              have d2 : (p : Int) < (keys.length : Int) := by omega
              clear hb he hy hsk hpl hla0 hla1 hmx hkp hput hlp hgo hp
              go_wp2_with (go_at_call 31; ((with_reducible refine (sk_within_to _ _ _ true _ HBT.out).mono ?_); rintro e w' ⟨rfl, rfl⟩))
              with_reducible refine HPT.out.mono ?_
              rintro e w2 ⟨ts2, rfl, hsk2, hpl2, hkq⟩
              have HSK2 := hide hsk2
              have HPL2 := hide hpl2
              have HKQ := hide hkq
              clear hsk2 hpl2 hkq
              go_wp2
              have hkp2 : Kp w w2 := HKQ.out.kp HKP.out (Nat.le_refl _)
              refine ⟨⟨_, ts2, y, ?_, by go_num, HSK2.out, ?_, fun h => by omega, fun j h => ?_, hy1, hy2, fun x hx => ?_, HE.out, hkp2⟩, ?_⟩
              · omega
              · rw [HPL2.out, HPL.out, List.take_succ_eq_append_getElem hlt, List.map_append, ← HY.out]; rfl
              · simp only [Nat.add_right_cancel_iff] at h; subst h; rw [List.getElem?_eq_getElem hlt, HY.out]
              · rw [List.take_succ_eq_append_getElem hlt, ← HY.out] at hx
                rcases List.mem_append.1 hx with hx | hx
                · have := HMX.out x hx; have := HGO.out; omega
                · simp at hx; omega
              · simp [intOf] <;> omega
            · obtain rfl : k = 0 := by omega
              rw [Nat.add_zero] at c0
              clear hb he hy hsk hpl hla0 hla1 hmx hkp hput hgo
              go_wp2_with (go_at_call 31; ((with_reducible refine (sk_within_to _ _ _ true _ HBT.out).mono ?_); rintro e w' ⟨rfl, rfl⟩))
              with_reducible refine HPT.out.mono ?_
              rintro e w2 ⟨ts2, rfl, hsk2, hpl2, hkq⟩
              have HSK2 := hide hsk2
              have HPL2 := hide hpl2
              have HKQ := hide hkq
              clear hsk2 hpl2 hkq
              go_wp2
              have hkp2 : Kp w w2 := HKQ.out.kp HKP.out (Nat.le_refl _)
              refine ⟨⟨_, ts2, y, ?_, by go_num, HSK2.out, ?_, fun h => by omega, fun j h => ?_, hy1, hy2, fun x hx => ?_, HE.out, hkp2⟩, ?_⟩
              · omega
              · rw [HPL2.out, HPL.out, List.take_succ_eq_append_getElem hlt, List.map_append, ← HY.out]; rfl
              · simp only [Nat.add_right_cancel_iff] at h; subst h; rw [List.getElem?_eq_getElem hlt, HY.out]
              · rw [List.take_succ_eq_append_getElem hlt, ← HY.out] at hx
                rcases List.mem_append.1 hx with hx | hx
                · have := HMX.out x hx; have := HGO.out; omega
                · simp at hx; omega
              · simp [intOf] <;> omega
          · have hk0 : 0 < k := by
              by_cases e : k = 0
              · have := hla0 e; omega
              · omega
            rw [if_neg (by omega)] at he
            have H1 : Hid (krL keys = 3) := hide (by rw [H0.out, ← he])
            obtain ⟨p, hp⟩ : ∃ p, p + 1 = k := ⟨k - 1, by omega⟩
            have hpl2 : p < keys.length := by omega
            obtain ⟨b2, o2, e2, _, c1⟩ := (HR.out.kp hkp).int (k := p) hpl2
            injection e2 with e2
            injection e2 with e2 e3
            subst e2 e3
            have hlp := hla1 p hp
            rw [List.getElem?_eq_getElem hpl2] at hlp
            injection hlp with hlp
            rw [hlp] at c1
            have s1 : IntKind.i64.wrap ((k : Int) - 1) = (p : Int) := by rw [IntWalk.i64_in _ (by omega)]; omega
            have gg : decide (0 < k) = true := decide_eq_true hk0
            have gi : decide ((0 : Int) < (k : Int)) = true := by simp; omega
            have d1 : decide (y ≤ la) = true := decide_eq_true (by omega)
            have d0 : (0 : Int) ≤ (p : Int) := by omega
            have d2 : (p : Int) < (keys.length : Int) := by omega
            clear hb he hy hsk hpl hla0 hla1 hmx hkp hlp hgo hp
            go_wp2_with (go_at_call 31; ((with_reducible refine (sk_within_to _ _ _ true _ HBT.out).mono ?_); rintro e w' ⟨rfl, rfl⟩))
            go_ret2
            exact .inl ⟨by rw [H1.out]; decide, by rw [H1.out]; rfl, HKP.out⟩
        · have HBT := hide ((btw_f_iff y 0 1000000).2 hb)
          rw [if_neg (by omega)] at he
          have H1 : Hid (krL keys = 3) := hide (by rw [H0.out, ← he])
          clear hb he hy hsk hpl hla0 hla1 hmx hkp
          go_wp2_with (go_at_call 31; ((with_reducible refine (sk_within_to _ _ _ false _ HBT.out).mono ?_); rintro e w' ⟨rfl, rfl⟩))
          go_ret2
          exact .inl ⟨by rw [H1.out]; decide, by rw [H1.out]; rfl, HKP.out⟩
      · rw [List.drop_eq_nil_of_le (by omega)] at he
        have H1 : Hid (krL keys = 0) := hide (by rw [H0.out, ← he]; rfl)
        have hkl : Hid (pL ts = keys.map (fun k => (k, 0))) := hide (by rw [hpl, List.take_of_length_le (by omega)])
        clear he hsk hpl hla0 hla1 hmx hkp
        go_wp2
        go_ret2
        exact .inr ⟨H1.out, s, ts, rfl, HSK.out, hkl.out, HKP.out⟩
end Go.Proofs.YtfojphaemfbfnaaDoor
namespace Go.Proofs.YtfojphaemfbfnaaDoor
open Go.ChangeShapes Go.WideShapes Go.ChangeAt Go.RowKit
set_option linter.unusedVariables false
set_option linter.unusedSimpArgs false

/-- A slice of slices. -/
def RDS {α : Type} (w : World) (E : Enc α) (v : Value) (ls : List (List α)) : Prop :=
  ∃ A c, v = .slice A ls.length c ∧ ls.length ≤ c ∧ c ≤ maxLen ∧ (0 < ls.length → ∃ b o, A = some ⟨b, o, none⟩ ∧ b < w.heap.size ∧
    ∀ k (h : k < ls.length), ∃ u, w.cell? ⟨b, o + k, none⟩ = some u ∧ RD w E u ls[k])
section
variable {α : Type} {w w' : World} {E : Enc α} {v : Value} {ls : List (List α)}
theorem RDS.shape (h : RDS w E v ls) : ∃ A c, v = .slice A ls.length c ∧ ls.length ≤ c ∧ c ≤ 9223372036854775807 := by
  obtain ⟨A, c, rfl, h1, h2, h3⟩ := h
  exact ⟨A, c, rfl, h1, by unfold maxLen at h2; omega⟩
theorem RDS.at_ {A : Option Addr} {n c : Nat} (h : RDS w E (.slice A n c) ls) {k : Nat} (hk : k < ls.length) :
    ∃ b o u, A = some ⟨b, o, none⟩ ∧ b < w.heap.size ∧ w.cell? ⟨b, o + k, none⟩ = some u ∧ RD w E u ls[k] := by
  obtain ⟨A', c', e, h1, h2, h3⟩ := h
  injection e with e1 e2 e3
  subst e1
  obtain ⟨b, o, rfl, hb, hc⟩ := h3 (by omega)
  obtain ⟨u, h4, h5⟩ := hc k hk
  exact ⟨b, o, u, rfl, hb, h4, h5⟩
theorem RDS.kp (h : RDS w E v ls) (hb : Kp w w') : RDS w' E v ls := by
  obtain ⟨A, c, rfl, h1, h2, h3⟩ := h
  refine ⟨A, c, rfl, h1, h2, fun h0 => ?_⟩
  obtain ⟨b, o, rfl, hb', hc⟩ := h3 h0
  refine ⟨b, o, rfl, Nat.lt_of_lt_of_le hb' hb.size, fun k hk => ?_⟩
  obtain ⟨u, h4, h5⟩ := hc k hk
  exact ⟨u, hb.cell h4, h5.kp hb⟩
end
theorem RDS.new2 {α : Type} {w : World} {E : Enc α} {a b : List α} {va vb : Value} {t : TypeId} {g : Nat} (hg : w.heap.size = g) (ha : RD w E va a) (hb : RD w E vb b) : RDS (w.alloc (.cells #[va, vb] t)) E (.slice (some ⟨g, 0, none⟩) 2 2) [a, b] := by
  subst hg
  have hk : Kp w (w.alloc (.cells #[va, vb] t)) := (Kp.refl w).alloc
  refine ⟨_, _, rfl, Nat.le_refl _, by simp [maxLen], fun _ => ⟨w.heap.size, 0, rfl, by simp, fun k h => ?_⟩⟩
  have hc := fun i => cell_of_row _ _ i _ t (0, 0) (heap_alloc_new w (.cells #[va, vb] t))
  match k, h with
  | 0, _ => exact ⟨va, hc 0, ha.kp hk⟩
  | 1, _ => exact ⟨vb, hc 1, hb.kp hk⟩
theorem RDS.new1 {α : Type} {w : World} {E : Enc α} {a : List α} {va : Value} {t : TypeId} {g : Nat} (hg : w.heap.size = g) (ha : RD w E va a) : RDS (w.alloc (.cells #[va] t)) E (.slice (some ⟨g, 0, none⟩) 1 1) [a] := by
  subst hg
  have hk : Kp w (w.alloc (.cells #[va] t)) := (Kp.refl w).alloc
  refine ⟨_, _, rfl, Nat.le_refl _, by simp [maxLen], fun _ => ⟨w.heap.size, 0, rfl, by simp, fun k h => ?_⟩⟩
  have hc := fun i => cell_of_row _ _ i _ t (0, 0) (heap_alloc_new w (.cells #[va] t))
  match k, h with
  | 0, _ => exact ⟨va, hc 0, ha.kp hk⟩
end Go.Proofs.YtfojphaemfbfnaaDoor
namespace Go.Proofs.YtfojphaemfbfnaaDoor
open Go.ChangeShapes Go.WideShapes Go.ChangeAt Go.RowKit
set_option linter.unusedVariables false
set_option linter.unusedSimpArgs false

abbrev V1 := {v : Value // v.oneCell' = true}
theorem OW.apart {α β : Type} {w : World} {B B' : Nat} {e e' : TypeId} {E : Enc α} {E' : Enc β} {v v' : Value} {l : List α} {l' : List β} (h : OW w B e E v l) (h' : OW w B' e' E' v' l') (hn : e ≠ e') : v.ownBlock = none ∨ v.ownBlock ≠ v'.ownBlock := by
  rcases h.2 with ⟨rfl, _⟩ | ⟨g, cap, cur, rfl, hg, hh, r⟩
  · exact .inl rfl
  · rcases h'.2 with ⟨rfl, _⟩ | ⟨g', cap', cur', rfl, hg', hh', r'⟩
    · right; simp [Value.ownBlock]
    · right
      intro e1
      injection e1 with e1
      subst e1
      rw [hh] at hh'
      injection hh' with hh'
      injection hh' with _ e2
      exact hn e2
theorem slice_one (A : Option Addr) (n c : Nat) : (Value.slice A n c).oneCell' = true := rfl
def OWS {α : Type} (w : World) (B : Nat) (st e : TypeId) (E : Enc α) (v : Value) (ls : List (List α)) : Prop :=
  ∃ vs : List V1, OW w B st eVal v vs ∧ vs.length = ls.length ∧ ∀ k (h : k < vs.length) (h2 : k < ls.length), OW w B e E vs[k].1 ls[k]
section
variable {α : Type} {w w' : World} {B : Nat} {st e : TypeId} {E : Enc α} {v : Value} {ls : List (List α)}
theorem OWS.nil : OWS w B st e E (.slice none 0 0) ([] : List (List α)) := ⟨[], OW.nil, rfl, fun k h => by simp at h⟩
theorem OWS.kp (h : OWS w B st e E v ls) (hk : Kp w w') : OWS w' B st e E v ls := by
  obtain ⟨vs, h1, h2, h3⟩ := h
  exact ⟨vs, h1.kp hk, h2, fun k a b => (h3 k a b).kp hk⟩
theorem OWS.more {B' : Nat} (h : OWS w B st e E v ls) (hB : B' ≤ B) : OWS w B' st e E v ls := by
  obtain ⟨vs, h1, h2, h3⟩ := h
  exact ⟨vs, h1.more hB, h2, fun k a b => (h3 k a b).more hB⟩
theorem OWS.rds (h : OWS w B st e E v ls) (hn : ls.length ≤ maxLen) : RDS w E v ls := by
  obtain ⟨vs, h1, h2, h3⟩ := h
  obtain ⟨A, c, e, a1, a2, a3, a4⟩ := h1.rd
  subst e
  refine ⟨A, c, by rw [h2], by omega, a2, fun h0 => ?_⟩
  obtain ⟨b, o, rfl, hb, hc⟩ := a4 (by omega)
  refine ⟨b, o, rfl, hb, fun k hk => ?_⟩
  have hk2 : k < vs.length := by omega
  refine ⟨vs[k].1, ?_, (h3 k hk2 hk).rd⟩
  have := hc k hk2 0 (by decide)
  simpa [eVal] using this
theorem OWS.len (h : OWS w B st e E v ls) : ∃ vs : List V1, OW w B st eVal v vs ∧ vs.length = ls.length := by
  obtain ⟨vs, h1, h2, _⟩ := h
  exact ⟨vs, h1, h2⟩
/-- One slice more. -/
theorem OWS.app {v' : Value} {u : V1} {l : List α} {vs : List V1} (h1 : OW w B st eVal v vs) (h2 : vs.length = ls.length) (h3 : ∀ k (h : k < vs.length) (h2 : k < ls.length), OW w B e E vs[k].1 ls[k]) (hn : e ≠ st) (hl : OW w B e E u.1 l)
    (ho : OW w' B st eVal v' (vs ++ [u])) (hg : w.grownBy w' v.ownBlock) : OWS w' B st e E v' (ls ++ [l]) := by
  refine ⟨vs ++ [u], ho, by simp [h2], fun k a b => ?_⟩
  by_cases e1 : k < vs.length
  · rw [List.getElem_append_left e1, List.getElem_append_left (by omega)]
    exact (h3 k e1 (by omega)).kept hg ((h3 k e1 (by omega)).apart h1 hn)
  · have hk : k = vs.length := by simp at a; omega
    subst hk
    have e2 : (ls ++ [l])[vs.length] = l := by rw [List.getElem_append_right (by omega)]; simp [h2]
    have e3 : (vs ++ [u])[vs.length] = u := by simp
    rw [e2, e3]
    exact hl.kept hg (hl.apart h1 hn)
end
theorem info_ints : (Tryd.prog.info? 22).map (fun i => (i.zero, i.size, i.bytes)) = some (some (.slice none 0 0), 1, 24) := by kernel_rfl
theorem row_ints : Row Tryd.prog 23 22 eVal 24 := row_of info_ints Tryd.underlying23 rfl rfl (by decide)
end Go.Proofs.YtfojphaemfbfnaaDoor
namespace Go.Proofs.YtfojphaemfbfnaaDoor
open Go.ChangeShapes Go.WideShapes Go.ChangeAt Go.RowKit
set_option linter.unusedVariables false
set_option linter.unusedSimpArgs false

section
variable (H : Int → Int) (ks : List Int)
/-- A row of keys; all rows that have a key. -/
def rowH (r : Nat) : List Int := ks.filter fun k => decide ((r : Int) < H k)
def rowsH (n : Nat) : List (List Int) := ((List.range n).map (rowH H ks)).filter fun l => !l.isEmpty
theorem rowsH_succ (n : Nat) : rowsH H ks (n + 1) = rowsH H ks n ++ if (rowH H ks n).isEmpty then [] else [rowH H ks n] := by
  unfold rowsH
  rw [List.range_succ, List.map_append, List.filter_append]
  cases h : (rowH H ks n).isEmpty <;> simp [List.filter_cons, h]
theorem rowsH_len (n : Nat) : (rowsH H ks n).length ≤ n := by
  unfold rowsH
  refine Nat.le_trans (List.length_filter_le _ _) ?_
  rw [List.length_map, List.length_range]; omega
theorem rowH_len (r : Nat) : (rowH H ks r).length ≤ ks.length := List.length_filter_le _ _
theorem rowH_nest {r q : Nat} (h : rowH H ks r = []) (hq : r ≤ q) : rowH H ks q = [] := by
  unfold rowH at h ⊢
  rw [List.filter_eq_nil_iff] at h ⊢
  intro k hk hc
  refine h k hk ?_
  simp only [decide_eq_true_eq] at hc ⊢
  omega
theorem rowH_top {n : Nat} (h : ∀ k, H k ≤ n) : rowH H ks n = [] := by
  unfold rowH
  rw [List.filter_eq_nil_iff]
  intro k _ hc
  simp only [decide_eq_true_eq] at hc
  have := h k
  omega
theorem rowsH_range : ∀ n, ∃ R, R ≤ n ∧ rowsH H ks n = (List.range R).map (rowH H ks) ∧ (R < n → rowH H ks R = []) ∧ ∀ q, q < R → rowH H ks q ≠ []
  | 0 => ⟨0, Nat.le_refl _, rfl, fun h => by omega, fun q h => by omega⟩
  | n + 1 => by
    obtain ⟨R, h1, h2, h3, h4⟩ := rowsH_range n
    by_cases e : rowH H ks n = []
    · refine ⟨R, by omega, by rw [rowsH_succ, e, h2]; simp, fun h => ?_, h4⟩
      by_cases e2 : R = n
      · rw [e2]; exact e
      · exact h3 (by omega)
    · have hR : R = n := by
        by_cases e2 : R = n
        · exact e2
        · exact absurd (rowH_nest H ks (h3 (by omega)) h1) e
      subst hR
      refine ⟨R + 1, by omega, ?_, fun h => by omega, fun q hq => ?_⟩
      · rw [rowsH_succ, h2, List.range_succ, List.map_append]
        have : (rowH H ks R).isEmpty = false := by
          cases h5 : rowH H ks R with
          | nil => exact absurd h5 e
          | cons a l => rfl
        rw [this]; simp
      · by_cases e2 : q = R
        · rw [e2]; exact e
        · exact h4 q (by omega)
theorem rowsH_is {n r : Nat} (hn : ∀ k, H k ≤ n) (h1 : rowH H ks r = []) (h2 : ∀ q, q < r → rowH H ks q ≠ []) : rowsH H ks n = (List.range r).map (rowH H ks) := by
  obtain ⟨R, g1, g2, g3, g4⟩ := rowsH_range H ks n
  have e : R = r := by
    rcases Nat.lt_trichotomy R r with h | h | h
    · refine absurd ?_ (h2 R h)
      by_cases e : R < n
      · exact g3 e
      · rw [show R = n by omega]; exact rowH_top H ks hn
    · exact h
    · exact absurd h1 (g4 r h)
  rw [g2, e]
theorem rowH_take (r k : Nat) (h : k < ks.length) : rowH H (ks.take (k + 1)) r = rowH H (ks.take k) r ++ if (r : Int) < H ks[k] then [ks[k]] else [] := by
  unfold rowH
  rw [List.take_succ_eq_append_getElem h, List.filter_append]
  congr 1
  by_cases e : (r : Int) < H ks[k] <;> simp [e]
end
def rowK (ks : List Int) (r : Nat) : List Int := rowH hgtF ks r
def rowsN (ks : List Int) (n : Nat) : List (List Int) := rowsH hgtF ks n
theorem rowsN_succ (ks : List Int) (n : Nat) : rowsN ks (n + 1) = rowsN ks n ++ if (rowK ks n).isEmpty then [] else [rowK ks n] := rowsH_succ hgtF ks n
theorem rowsN_len (ks : List Int) (n : Nat) : (rowsN ks n).length ≤ n := rowsH_len hgtF ks n
theorem rowK_len (ks : List Int) (r : Nat) : (rowK ks r).length ≤ ks.length := rowH_len hgtF ks r
theorem hgt_le (k : Int) : hgtF k ≤ (12 : Nat) := (hgtF_in k).2
theorem rowK_12 (ks : List Int) : rowK ks 12 = [] := rowH_top hgtF ks hgt_le
theorem rowsN_is {ks : List Int} {r : Nat} (h1 : rowK ks r = []) (h2 : ∀ q, q < r → rowK ks q ≠ []) : rowsN ks 12 = (List.range r).map (rowK ks) := rowsH_is hgtF ks hgt_le h1 h2
theorem rowsN_range (ks : List Int) : ∃ R, R ≤ 12 ∧ rowsN ks 12 = (List.range R).map (rowK ks) ∧ (∀ q, R ≤ q → rowK ks q = []) ∧ ∀ q, q < R → rowK ks q ≠ [] := by
  obtain ⟨R, h1, h2, h3, h4⟩ := rowsH_range hgtF ks 12
  have h5 : rowK ks R = [] := by
    by_cases e : R < 12
    · exact h3 e
    · rw [show R = 12 by omega]; exact rowK_12 ks
  exact ⟨R, h1, h2, fun q hq => rowH_nest hgtF ks h5 hq, h4⟩
theorem rowK_take (ks : List Int) (r k : Nat) (h : k < ks.length) : rowK (ks.take (k + 1)) r = rowK (ks.take k) r ++ if (r : Int) < hgtF ks[k] then [ks[k]] else [] := rowH_take hgtF ks r k h
theorem rowK_nil (r : Nat) : rowK [] r = [] := rfl
end Go.Proofs.YtfojphaemfbfnaaDoor
