/-
  skip.stack.all: what it answers. Conditions: the stack reads as ts (SK).
  A variable that holds a slice which grows (OB): read, appended to. Conditions: none.
  The heights by bits, plainly: what exchanged, timesTwo and bit make of a number (exN, mulN, bitN), and that the loop of hedgref.HeightOf ends at skip.Height's answer. No conditions.
-/
import Derived.Test.YtfojphaemfbfnaaDoorG16
import Derived.Test.YtfojphaemfbfnaaDoorG3
import Derived.Test.YtfojphaemfbfnaaDoorG2
import Derived.Laws.Bits64b

namespace Go.Proofs.YtfojphaemfbfnaaDoor
open Go.ChangeShapes Go.WideShapes Go.ChangeAt Go.RowKit
set_option linter.unusedVariables false
set_option linter.unusedSimpArgs false

def rowT (ts : List Tw) (r i : Nat) : List Int := (((List.range' 1 (i - 1)).filter fun m => decide (r < (tw ts m).h))).map fun m => (tw ts m).p.1
theorem rowT_gap {ts : List Tw} {r a b : Nat} (ha : 1 ≤ a) (h : a ≤ b) (hg : ∀ x, a ≤ x → x < b → (tw ts x).h ≤ r) : rowT ts r b = rowT ts r a := by
  unfold rowT
  have e : List.range' 1 (b - 1) = List.range' 1 (a - 1) ++ List.range' a (b - a) := by
    have := @List.range'_append 1 (a - 1) (b - a) 1
    rw [show 1 + 1 * (a - 1) = a from by omega, show a - 1 + (b - a) = b - 1 from by omega] at this
    exact this.symm
  rw [e, List.filter_append, List.map_append]
  have h2 : (List.range' a (b - a)).filter (fun m => decide (r < (tw ts m).h)) = [] := by
    rw [List.filter_eq_nil_iff]
    intro m hm
    rw [List.mem_range'_1] at hm
    have := hg m (by omega) (by omega)
    simp; omega
  rw [h2]; simp
theorem rowT_at {ts : List Tw} {r a : Nat} (ha : 1 ≤ a) (h : r < (tw ts a).h) : rowT ts r (a + 1) = rowT ts r a ++ [(tw ts a).p.1] := by
  unfold rowT
  have e : List.range' 1 (a + 1 - 1) = List.range' 1 (a - 1) ++ [a] := by
    have := @List.range'_append 1 (a - 1) 1 1
    rw [show 1 + 1 * (a - 1) = a from by omega, show a - 1 + 1 = a + 1 - 1 from by omega] at this
    exact this.symm
  rw [e, List.filter_append, List.map_append]
  simp [List.filter_cons, h]
theorem rowT_next {ts : List Tw} {r i : Nat} (hi : 1 ≤ i) (hl : i < ts.length) (h : r < (tw ts i).h) : rowT ts r (nj ts i r) = rowT ts r i ++ [(tw ts i).p.1] := by
  obtain ⟨f1, f2, f3, f4⟩ := nj_facts ts i r hl
  rw [rowT_gap (a := i + 1) (by omega) (by omega) (fun x h1 h2 => f3 x (by omega) h2), rowT_at hi h]
theorem rowT_first {ts : List Tw} {r : Nat} (hl : 0 < ts.length) : rowT ts r (nj ts 0 r) = [] := by
  obtain ⟨f1, f2, f3, f4⟩ := nj_facts ts 0 r hl
  rw [rowT_gap (a := 1) (by omega) (by omega) (fun x h1 h2 => f3 x (by omega) h2)]
  rfl
theorem rowT_len {ts : List Tw} {r i : Nat} (h : i ≤ 201) : (rowT ts r i).length ≤ 200 := by
  unfold rowT
  rw [List.length_map]
  refine Nat.le_trans (List.length_filter_le _ _) ?_
  rw [List.length_range']; omega
def keysT (ts : List Tw) : List Int := (pL ts).map Prod.fst
theorem rowT_allH {ts : List Tw} (H : Int → Int) (r : Nat) (hpos : 0 < ts.length) (hts : ∀ m, 0 < m → m < ts.length → ((tw ts m).h : Int) = H (tw ts m).p.1) : rowT ts r ts.length = (keysT ts).filter fun k => decide ((r : Int) < H k) := by
  have e : keysT ts = (List.range' 1 (ts.length - 1)).map fun m => (tw ts m).p.1 := by
    apply List.ext_getElem
    · simp [keysT, pL_len]
    · intro k h1 h2
      simp only [keysT, List.getElem_map, pL_at, List.getElem_range']
      rw [show 1 + 1 * k = k + 1 from by omega]
  unfold rowT
  rw [e, List.filter_map]
  congr 1
  apply List.filter_congr
  intro m hm
  rw [List.mem_range'_1] at hm
  have h9 := hts m (by omega) (by omega)
  show decide (r < (tw ts m).h) = decide ((r : Int) < H (tw ts m).p.1)
  rw [decide_eq_decide, ← h9]
  omega
theorem rowT_all {w : World} {s : Nat} {ts : List Tw} {B : Nat} (h : SK w s ts B) (r : Nat) : rowT ts r ts.length = rowK (keysT ts) r :=
  rowT_allH hgtF r h.pos fun m h1 h2 => (h.hts m h1 h2).1
/-- Where a tower stands in the list, by its pointer. -/
def idxT (ts : List Tw) : Value → Nat
  | .pointer (some a) => ts.findIdx fun t => t.b == a.block
  | _ => ts.length
theorem idxT_at {w : World} {s : Nat} {ts : List Tw} {B : Nat} (h : SK w s ts B) {i : Nat} (hi : i < ts.length) : idxT ts (.pointer (some ⟨(tw ts i).b, 0, none⟩)) = i := by
  have et : ∀ j (hj : j < ts.length), ts[j] = tw ts j := fun j hj => by simp [tw, List.getD_eq_getElem?_getD, List.getElem?_eq_getElem hj]
  unfold idxT
  rw [List.findIdx_eq hi]
  refine ⟨by rw [et i hi]; simp, fun j hj => ?_⟩
  rw [et j (by omega)]
  cases e : ((tw ts j).b == (tw ts i).b) with
  | false => rfl
  | true =>
    have := h.f.bdj j i (by omega) hi (by simpa using e)
    omega
def AoRel (ts : List Tw) (w : World) (ov kv : Value) (wr : World) : Prop :=
  ∃ r : Nat, r ≤ 12 ∧ kv = .int .i64 (r : Int) ∧ OWS wr w.heap.size 22 3 eInt ov (rowsN (keysT ts) r) ∧ Kp w wr
def AiRel (ts : List Tw) (r : Nat) (w : World) (lv tv : Value) (wr : World) : Prop :=
  ∃ i : Nat, 1 ≤ i ∧ i ≤ ts.length ∧ (i < ts.length → r < (tw ts i).h) ∧ tv = .pointer (if i < ts.length then some ⟨(tw ts i).b, 0, none⟩ else none) ∧ OW wr w.heap.size 3 eInt lv (rowT ts r i) ∧ Kp w wr
def RetRDS {α : Type} (E : Enc α) (ls : List (List α)) (w : World) (e : Ending) (w' : World) : Prop := ∃ v, e = .returned v ∧ RDS w' E v ls ∧ Kp w w'
def RetOWS (ls : List (List Int)) (w : World) (e : Ending) (w' : World) : Prop := ∃ v, e = .returned v ∧ OWS w' w.heap.size 22 3 eInt v ls ∧ Kp w w'
set_option maxRecDepth 100000 in
set_option maxHeartbeats 4000000 in
theorem skAll_ows (s : Nat) (ts : List Tw) (w : World) (B : Nat) (hsk : SK w s ts B) : Calls Tryd.prog 30 #[.pointer (some ⟨s, 0, none⟩)] w (RetOWS (rowsN (keysT ts) 12) w) := by
  have HSK := hide hsk
  have hpos := hsk.pos
  have hlen := hsk.len
  clear hsk
  go_enter Tryd.func30, Tryd.ntmps30
  go_wp2
  go_loopw [3, 7] (AoRel ts w) (fun _ k _ => 12 - (intOf k).toNat)
  case atStart => exact ⟨0, by omega, rfl, OWS.nil, Kp.refl _⟩
  case round =>
    obtain ⟨r, hr, rfl, hows, hkp⟩ := hrel
    have HOWS := hide hows
    have HKP := hide hkp
    have HSKr := hide (HSK.out.kp hkp)
    clear hows
    by_cases hr12 : r < 12
    · have hh0 : r < (tw ts 0).h := by rw [HSK.out.head]; omega
      have c0 : wr.cell? ⟨s, 0, none⟩ = some (.pointer (some ⟨(tw ts 0).b, 0, none⟩)) := HSKr.out.stk.cell 0
      have d2 := (HSKr.out.f.tower hpos).2.2
      obtain ⟨l0, _⟩ := HSKr.out.f.link hpos hh0
      obtain ⟨f1, f2, f3, f4⟩ := nj_facts ts 0 r hpos
      obtain ⟨i0, hi0⟩ : ∃ i0, i0 = nj ts 0 r := ⟨_, rfl⟩
      have hl0 : (lnk ts 0 r).1 = if i0 < ts.length then some ⟨(tw ts i0).b, 0, none⟩ else none := by unfold lnk; rw [← hi0]
      rw [hl0] at l0
      have HREL : Hid (AiRel ts r wr (.slice none 0 0) (.pointer (if i0 < ts.length then some ⟨(tw ts i0).b, 0, none⟩ else none)) wr) := hide ⟨i0, by omega, by omega, fun h => by rw [hi0] at h ⊢; exact f4 h, rfl, by rw [hi0, rowT_first hpos]; exact OW.nil, Kp.refl _⟩
      obtain ⟨x0, hx0⟩ : ∃ x0, x0 = (if i0 < ts.length then some (⟨(tw ts i0).b, 0, none⟩ : Addr) else none) := ⟨_, rfl⟩
      rw [← hx0] at l0 HREL
      have b1 : (r : Int) < ((tw ts 0).h : Int) := by omega
      have b0 : (0 : Int) ≤ (r : Int) := by omega
      have HHD := hide hh0
      have d12 : decide ((r : Int) < 12) = true := by simp; omega
      clear hl0 hi0 f1 f2 f3 f4 hx0 hkp hh0
      go_wp2
      obtain ⟨w1, hw1⟩ : ∃ w1, w1 = wr := ⟨_, rfl⟩
      have HRS := hide hw1
      go_loopw [5, 6] (AiRel ts r w1) (fun _ tv _ => ts.length - idxT ts tv)
      case atStart => rw [hw1]; exact HREL.out
      case round =>
        clear HREL c0 d2 l0 b1
        obtain ⟨i, hi1, hil, hih, rfl, hol, hkp1⟩ := hrel
        have HK1 := hide hkp1
        have HOL := hide hol
        have hhi := hol.hi
        have hnl := rowT_len (ts := ts) (r := r) (i := i) (by omega)
        by_cases hlt : i < ts.length
        · rw [if_pos hlt]
          have hri := hih hlt
          have HSK1 := hide (HSK.out.kp (HKP.out.trans (by rw [← HRS.out]; exact hkp1)))
          have c0 := (HSK1.out.f.tower hlt).1
          have HNX := hide (rowT_next hi1 hlt hri)
          have HIX := hide (idxT_at HSK.out hlt)
          obtain ⟨y, hy⟩ : ∃ y, y = (tw ts i).p.1 := ⟨_, rfl⟩
          have HY := hide hy
          rw [← hy] at c0
          have HM1 : Hid (((rowT ts r i).length + [y].length) * 8 ≤ 140737488355328) := hide (by simp; omega)
          have HM2 : Hid ((rowT ts r i).length + [y].length ≤ maxLen) := hide (by simp [maxLen]; omega)
          have HIH := hide hih
          have HHI := hide hhi
          clear hol hnl hy hih hkp1
          have b1 : (r : Int) < ((tw ts i).h : Int) := by omega
          go_wp2_with ((at_builtin; (with_reducible refine list_app (B := w1.heap.size) (l := (rowT ts r i)) (m := [y]) row_int u5 ?_ (.tmp 31) (.tmp 37) ?_ ?_ ?_ ?_ HM1.out HM2.out ?_ ?_); (with_reducible rfl); (with_reducible rfl); rfl; (exact HOL.out.alloc _); (show RD _ _ (.slice (some ⟨_, 0, none⟩) 1 1) _; (focus ((repeat (first | (with_reducible assumption) | exact RD.new1 _ rfl | (refine RD.new1e _ ?_ rfl; simp; done) | (with_reducible apply RD.alloc) | (with_reducible apply RD.drew) | (with_reducible apply RD.drewN) | ((with_reducible apply RD.belowR); (with_reducible assumption)))); done))); (have := HK1.out.size; simp; omega); intro v3 w3 ho3 hg3 hat3); have kk3 := Kp.app hg3 HK1.out.alloc HHI.out; have HSK3 := hide (HSK.out.kp (HKP.out.trans (by rw [← HRS.out]; exact kk3))); have HO3 := hide ho3; have d2 := (HSK3.out.f.tower hlt).2.2; obtain ⟨l0, _⟩ := HSK3.out.f.link hlt hri; obtain ⟨x0, hx0⟩ : ∃ x0, x0 = (lnk ts i r).1 := ⟨_, rfl⟩; rw [← hx0] at l0; have HX0 := hide hx0; have HKK3 := hide kk3; clear ho3 hg3 hat3 hx0 kk3 c0)
          go_roundw
          case rel =>
            obtain ⟨f1, f2, f3, f4⟩ := nj_facts ts i r hlt
            exact ⟨nj ts i r, by omega, by omega, f4, by rw [HX0.out]; rfl, by rw [HNX.out, ← HY.out]; exact HO3.out, HKK3.out⟩
          case measure =>
            obtain ⟨f1, f2, f3, f4⟩ := nj_facts ts i r hlt
            have h1 := HIX.out
            have h2 : ts.length - idxT ts (.pointer x0) < ts.length - i := by
              rw [HX0.out]
              unfold lnk
              by_cases e : nj ts i r < ts.length
              · rw [if_pos e, idxT_at HSK.out e]; omega
              · rw [if_neg e]; simp only [idxT]; omega
            show ts.length - idxT ts (.pointer x0) < ts.length - idxT ts (.pointer (some ⟨(tw ts i).b, 0, none⟩))
            rw [h1]
            exact h2
        · have hrow : Hid (rowT ts r i = rowK (keysT ts) r) := hide (by rw [show i = ts.length from by omega]; exact rowT_all HSK.out r)
          rw [if_neg hlt]
          have HHI := hide hhi
          obtain ⟨A5, c5, rfl, _, _⟩ := hol.rd.shape
          obtain ⟨N5, hN5⟩ : ∃ N5, N5 = (rowT ts r i).length := ⟨_, rfl⟩
          rw [← hN5] at HOL HHI ⊢
          have HN5 := hide hN5
          have hRS := HRS.out
          have HKW := hide (HKP.out.trans (by rw [← hRS]; exact hkp1))
          have HOWS2 := hide (HOWS.out.kp (by rw [← hRS]; exact hkp1))
          have hsz0 : w.heap.size ≤ w1.heap.size := by rw [hRS]; exact HKP.out.size
          have HSZ0 := hide hsz0
          clear hol hih hkp1 HOWS hw1 hRS hsz0
          by_cases he : N5 = 0
          · have hrs : Hid (rowsN (keysT ts) (r + 1) = rowsN (keysT ts) r) := hide (by
              rw [rowsN_succ, ← hrow.out]
              have h1 : rowT ts r i = [] := List.eq_nil_of_length_eq_zero (by omega)
              rw [h1]; simp)
            have d1 : decide (0 < N5) = false := by simp [he]
            clear hN5 he hnl
            go_wp2
            go_roundw
            case rel => exact ⟨r + 1, by omega, by go_num, by rw [hrs.out]; exact HOWS2.out, HKW.out⟩
            case measure => simp [intOf] <;> omega
          · have hrs : Hid (rowsN (keysT ts) (r + 1) = rowsN (keysT ts) r ++ [rowT ts r i]) := hide (by
              rw [rowsN_succ, ← hrow.out]
              have h1 : (rowT ts r i).isEmpty = false := by
                cases e : rowT ts r i with
                | nil => rw [e] at hN5; simp at hN5; omega
                | cons a l => rfl
              rw [h1]; simp)
            have hrl : (rowsN (keysT ts) r).length ≤ 12 := Nat.le_trans (rowsN_len _ _) (by omega)
            have d1 : decide (0 < N5) = true := by simp; omega
            obtain ⟨vs, hv, hvl, hin⟩ := HOWS2.out
            obtain ⟨A3, c3, hu3, _, _⟩ := hv.rd.shape
            subst hu3
            have hhi3 := hv.hi
            have HV := hide hv
            have HVL := hide hvl
            have HIN := hide hin
            have HM1 : Hid ((vs.length + [(⟨.slice A5 N5 c5, slice_one A5 N5 c5⟩ : V1)].length) * 24 ≤ 140737488355328) := hide (by simp; omega)
            have HM2 : Hid (vs.length + [(⟨.slice A5 N5 c5, slice_one A5 N5 c5⟩ : V1)].length ≤ maxLen) := hide (by simp [maxLen]; omega)
            have HHI3 := hide hhi3
            clear hN5 he hnl hv hvl hin hrl hhi3
            go_wp2_with (at_builtin; (with_reducible refine list_app (B := w.heap.size) (l := vs) (m := [(⟨.slice A5 N5 c5, slice_one A5 N5 c5⟩ : V1)]) row_ints (.slice A3 vs.length c3) ?_ (.tmp 42) (.tmp 44) ?_ ?_ ?_ ?_ HM1.out HM2.out ?_ ?_); (with_reducible rfl); (with_reducible rfl); rfl; (exact HV.out.alloc _); (show RD _ _ (.slice (some ⟨_, 0, none⟩) 1 1) _; exact RD.new1e _ (by simp) rfl); (have := HKW.out.size; simp; omega); intro v3 w3 ho3 hg3 hat3)
            go_roundw
            case rel =>
              have kka : Kp wr (wr.alloc (.cells #[.slice A5 N5 c5] 22)) := (Kp.refl _).alloc
              have h1 := OWS.app (u := ⟨.slice A5 N5 c5, slice_one A5 N5 c5⟩) (l := rowT ts r i) (HV.out.kp kka) HVL.out (fun k a b => (HIN.out k a b).kp kka) (by decide) ((HOL.out.more HSZ0.out).kp kka) ho3 hg3
              exact ⟨r + 1, by omega, by go_num, by rw [hrs.out]; exact h1, Kp.app hg3 HKW.out.alloc HHI3.out⟩
            case measure => simp [intOf] <;> omega
    · obtain rfl : r = 12 := by omega
      go_wp2
      go_ret
      exact ⟨_, rfl, HOWS.out, HKP.out⟩
theorem skAll_any (s : Nat) (ts : List Tw) (w : World) (B : Nat) (hsk : SK w s ts B) : Calls Tryd.prog 30 #[.pointer (some ⟨s, 0, none⟩)] w (RetRDS eInt (rowsN (keysT ts) 12) w) := by
  refine (skAll_ows s ts w B hsk).mono ?_
  rintro e w' ⟨v, rfl, ho, hk⟩
  exact ⟨v, rfl, ho.rds (by have := rowsN_len (keysT ts) 12; unfold maxLen; omega), hk⟩
end Go.Proofs.YtfojphaemfbfnaaDoor
namespace Go.Proofs.YtfojphaemfbfnaaDoor
open Go.ChangeShapes Go.WideShapes Go.ChangeAt Go.RowKit
set_option linter.unusedVariables false
set_option linter.unusedSimpArgs false

/-- Only the row of v may have been written. Behind a name. -/
def KV (v : Value) (w w' : World) : Prop := Kf (fun i => v.ownBlock = some i) w w'
section
variable {v : Value} {w W W' : World}
theorem KV.refl (v : Value) (w : World) : KV v w w := Kf.refl _ _
theorem KV.size (h : KV v w W) : w.heap.size ≤ W.heap.size := Kf.size h
theorem KV.drew (h : KV v w W) : KV v w W.drew := Kf.on h (Kp.refl W).drew
theorem KV.drewN {n : Nat} (h : KV v w W) : KV v w (W.drewN n) := Kf.on h (Kp.refl W).drewN
theorem KV.alloc {o : Obj} (h : KV v w W) : KV v w (W.alloc o) := Kf.on h (Kp.refl W).alloc
theorem KV.app (hg : W.grownBy W' v.ownBlock) (h : KV v w W) : KV v w W' := Kf.app h hg fun _ hk => .inl hk
theorem KV.call (hb : Kp W W') (h : KV v w W) : KV v w W' := Kf.on h hb
theorem KV.cell {p : Addr} {u : Value} (h : KV v w W) (hn : v.ownBlock ≠ some p.block) (hc : w.cell? p = some u) : W.cell? p = some u := Kf.cell h hn hc
theorem KV.frozen {p : Addr} (h : KV v w W) (hp : p.block < w.heap.size) (hn : v.ownBlock ≠ some p.block) : W.frozen? p = w.frozen? p := Kf.frozen h hp hn
end
section
variable {α : Type} {w w3 : World} {B g : Nat} {st e : TypeId} {E : Enc α} {l l' : List α} {v v3 : Value}
theorem ob_app (hb : BC w g st [v]) (ho : OW w B e E v l) (hn : v.ownBlock ≠ some g) (k : KV v w w3) (ho3 : OW w3 B e E v3 l') (hat : v3.ownBlock = v.ownBlock ∨ Hi w.heap.size v3) :
    OB (w3.setCell ⟨g, 0, none⟩ v3) B g st e E l' ∧ KO g B w (w3.setCell ⟨g, 0, none⟩ v3) := by
  have hz := KV.size k
  have hlt := hb.lt
  have hn3 : v3.ownBlock ≠ some g := by
    rcases hat with h | h
    · rw [h]; exact hn
    · intro e; have := h g e; omega
  have hb3 : BC w3 g st [v] := hb.kf k hn
  refine ⟨⟨v3, hb3.set (j := 0) (u := v3), ho3.setCell hn3 v3, hn3⟩, v, v3, hb.cell 0, (hb3.set (j := 0) (u := v3)).cell 0, Kf.set (Kf.mono k fun i _ hi => .inr hi) (.inl (.inl rfl)), hat⟩
theorem RD.slice {β : Type} {E' : Enc β} {u : Value} {m : List β} (h : RD w E' u m) : ∃ A n c, u = .slice A n c := by
  obtain ⟨A, c, rfl, _⟩ := h
  exact ⟨A, _, c, rfl⟩
theorem KO.size {a b : World} (h : KO g B a b) : a.heap.size ≤ b.heap.size := by
  obtain ⟨v, v', h1, h2, h3, h4⟩ := h
  exact Kf.size h3
theorem RD.ko {β : Type} {E' : Enc β} {w' : World} {u : Value} {m : List β} (h : RD w E' u m) (ho : OB w B g st e E l) (hk : KO g B w w') (hu : 0 < m.length → Lo B u) (hg : B ≤ g) : RD w' E' u m := by
  obtain ⟨v, hb, hv, hn⟩ := ho
  obtain ⟨v1, v2, k1, k2, k3, k4⟩ := hk
  have e1 : some v1 = some v := k1.symm.trans (hb.cell 0)
  injection e1 with e1
  subst e1
  refine h.kf k3 fun h0 k hk hF => ?_
  have := hu h0 k hk
  rcases hF with rfl | hF
  · omega
  · have := (hv.lt k hF).1; omega
theorem OB.kp {w' : World} (h : OB w B g st e E l) (hk : Kp w w') : OB w' B g st e E l := by
  obtain ⟨v, hb, hv, hn⟩ := h
  exact ⟨v, hb.kp hk, hv.kp hk, hn⟩
theorem OB.new (w : World) (hB : B ≤ w.heap.size) : OB (w.alloc (.cells #[.slice none 0 0] st)) B w.heap.size st e E ([] : List α) :=
  ⟨.slice none 0 0, BC.new w st [.slice none 0 0], OW.nil, by simp [Value.ownBlock]⟩
theorem KO.on {a b c : World} (h : KO g B a b) (hk : Kp b c) : KO g B a c := by
  obtain ⟨v, v', h1, h2, h3, h4⟩ := h
  exact ⟨v, v', h1, hk.cell h2, h3.on hk, h4⟩
theorem KO.onL {a b c : World} (h : KO g B b c) (hk : Kp a b) (hg : g < a.heap.size) (ho : OB a B g st e E l) : KO g B a c := by
  obtain ⟨v0, hb, hv, hn⟩ := ho
  obtain ⟨v, v', h1, h2, h3, h4⟩ := h
  have e1 : some v = some v0 := h1.symm.trans (hk.cell (hb.cell 0))
  injection e1 with e1
  subst e1
  have hz := hk.size
  refine ⟨v, v', hb.cell 0, h2, (Kf.of (F := fun i => i = g ∨ v.ownBlock = some i) hk).trans h3 (fun i _ h => h), h4.imp id fun h => h.mono hz⟩
theorem OB.kp0 {a w' : World} (h : OB w B g st e E l) (hk : KO g B w w') (h0 : Kp a w) (hB : a.heap.size ≤ B) (hg : B ≤ g) : Kp a w' :=
  hk.kp h0 (by omega) fun v hv => by
    obtain ⟨u, hb, ho, _⟩ := h
    have e1 : some v = some u := hv.symm.trans (hb.cell 0)
    injection e1 with e1
    subst e1
    exact fun k hk => Nat.le_trans hB (ho.lt k hk).1
end
theorem BC.ko {α : Type} {w w' : World} {B g i : Nat} {st e t : TypeId} {E : Enc α} {l : List α} {cs : List Value} (h : BC w i t cs) (ho : OB w B g st e E l) (hk : KO g B w w') (h1 : st ≠ t) (h2 : e ≠ t) : BC w' i t cs := by
  obtain ⟨v, hb, hv, hn⟩ := ho
  obtain ⟨v1, v2, k1, k2, k3, k4⟩ := hk
  have e1 : some v1 = some v := k1.symm.trans (hb.cell 0)
  injection e1 with e1
  subst e1
  refine h.kf k3 fun hg => ?_
  rcases hg with rfl | hg
  · exact hb.ne h h1 rfl
  · exact hv.bc_ne h h2 hg
/-- What a call leaves that appends so much to the variable. -/
def WPost {α : Type} (B g : Nat) (st e : TypeId) (E : Enc α) (r : Value) (l : List α) (w : World) (en : Ending) (w' : World) : Prop := en = .returned r ∧ OB w' B g st e E l ∧ KO g B w w'
end Go.Proofs.YtfojphaemfbfnaaDoor
namespace Go.Proofs.YtfojphaemfbfnaaDoor
open Go.ChangeShapes Go.WideShapes Go.ChangeAt Go.RowKit
set_option linter.unusedVariables false
set_option linter.unusedSimpArgs false

theorem xor_bit (x n k : Nat) : (x ^^^ x / 2 ^ n) / 2 ^ k % 2 = (x / 2 ^ k % 2 + x / 2 ^ (k + n) % 2) % 2 := by
  have h := Nat.testBit_xor x (x / 2 ^ n) k
  rw [Nat.testBit_div_two_pow] at h
  simp only [Nat.testBit_eq_decide_div_mod_eq] at h
  try rw [Nat.add_comm n k] at h
  have e1 := Nat.mod_two_eq_zero_or_one ((x ^^^ x / 2 ^ n) / 2 ^ k)
  have e2 := Nat.mod_two_eq_zero_or_one (x / 2 ^ k)
  have e3 := Nat.mod_two_eq_zero_or_one (x / 2 ^ (k + n))
  rcases e1 with e1 | e1 <;> rcases e2 with e2 | e2 <;> rcases e3 with e3 | e3 <;> rw [e1, e2, e3] at h ⊢ <;> simp at h ⊢
def bitN (x n : Nat) : Nat := if 63 < n then 0 else x / 2 ^ n % 2
theorem bitN_lt {x : Nat} (hx : x < 2 ^ 64) (n : Nat) : bitN x n = x / 2 ^ n % 2 := by
  unfold bitN
  split
  · next h =>
    rw [Nat.div_eq_of_lt (Nat.lt_of_lt_of_le hx (Nat.pow_le_pow_right (by omega) (by omega)))]
  · rfl
theorem bitN_le (x n : Nat) : bitN x n ≤ 1 := by unfold bitN; split <;> omega
def exN (x n : Nat) : Nat := x ^^^ x / 2 ^ n
theorem exN_lt {x : Nat} (hx : x < 2 ^ 64) (n : Nat) : exN x n < 2 ^ 64 := Nat.xor_lt_two_pow hx (Nat.lt_of_le_of_lt (Nat.div_le_self _ _) hx)
theorem half_step (y k : Nat) : y / 2 ^ k = 2 * (y / 2 ^ (k + 1)) + y / 2 ^ k % 2 := by
  rw [Nat.pow_succ, ← Nat.div_div_eq_div_mul]; omega
theorem exN_step {x : Nat} (hx : x < 2 ^ 64) (n k : Nat) : exN x n / 2 ^ k = 2 * (exN x n / 2 ^ (k + 1)) + (bitN x k + bitN x (k + n)) % 2 := by
  rw [half_step, bitN_lt hx, bitN_lt hx, exN, xor_bit]
theorem mul_step (a b k : Nat) : (b / 2 ^ k) * a % 2 ^ 64 = (2 * ((b / 2 ^ (k + 1)) * a % 2 ^ 64) % 2 ^ 64 + (b / 2 ^ k % 2) * a) % 2 ^ 64 := by
  conv => lhs; rw [half_step b k, Nat.add_mul, Nat.mul_assoc]
  rw [Nat.add_mod, Nat.mul_mod 2, Nat.add_mod _ (b / 2 ^ k % 2 * a)]
  simp [Nat.mul_mod]

theorem and_compl (n x : Nat) (h : x < 2 ^ n) : x &&& (2 ^ n - (x + 1)) = 0 := by
  apply Nat.eq_of_testBit_eq
  intro i
  rw [Nat.testBit_and, Nat.testBit_two_pow_sub_succ h]
  simp
  intro h1 h2
  exact h1
theorem and_odd (m m' : Nat) (h : m &&& m' = 0) : (2 * m + 1) &&& (2 * m' + 1) = 1 := by
  apply Nat.eq_of_testBit_eq
  intro i
  rw [Nat.testBit_and]
  cases i with
  | zero => simp
  | succ i =>
    have h1 : (2 * m + 1).testBit (i + 1) = m.testBit i := by
      rw [Nat.testBit_succ]; congr 1; omega
    have h2 : (2 * m' + 1).testBit (i + 1) = m'.testBit i := by
      rw [Nat.testBit_succ]; congr 1; omega
    have h3 : (1 : Nat).testBit (i + 1) = false := by rw [Nat.testBit_succ]; simp
    rw [h1, h2, h3, ← Nat.testBit_and, h, Nat.zero_testBit]
theorem and_neg (t m : Nat) (h : 2 ^ t * (2 * m + 1) < 2 ^ 64) : (2 ^ t * (2 * m + 1)) &&& (2 ^ 64 - 2 ^ t * (2 * m + 1)) = 2 ^ t := by
  have ht : t < 64 := by
    refine (Nat.pow_lt_pow_iff_right (a := 2) (by omega)).mp (Nat.lt_of_le_of_lt ?_ h)
    exact Nat.le_mul_of_pos_right _ (by omega)
  obtain ⟨u, hu⟩ : ∃ u, 64 = t + 1 + u := ⟨63 - t, by omega⟩
  have e : 2 ^ 64 = 2 ^ t * (2 * 2 ^ u) := by rw [hu, Nat.pow_add, Nat.pow_succ, Nat.mul_assoc]
  have hm : m < 2 ^ u := by
    rw [e] at h
    have := Nat.lt_of_mul_lt_mul_left h
    omega
  have e2 : 2 ^ 64 - 2 ^ t * (2 * m + 1) = 2 ^ t * (2 * (2 ^ u - (m + 1)) + 1) := by
    rw [e, ← Nat.mul_sub]; congr 1; omega
  rw [e2]
  have hs := Nat.shiftLeft_and_distrib (a := 2 * m + 1) (b := 2 * (2 ^ u - (m + 1)) + 1) (i := t)
  simp only [Nat.shiftLeft_eq] at hs
  rw [Nat.mul_comm (2 ^ t), Nat.mul_comm (2 ^ t), ← hs, and_odd _ _ (and_compl u m hm), Nat.one_mul]
def dbOk (t : Nat) : Bool := dbTab.getD (2 ^ t * 285870213051353865 % 18446744073709551616 / 288230376151711744) 0 == (t : Int)
theorem db_all' : ∀ t : Nat, t < 64 → dbOk t = true
  | 0, _ => by decide +kernel
  | 1, _ => by decide +kernel
  | 2, _ => by decide +kernel
  | 3, _ => by decide +kernel
  | 4, _ => by decide +kernel
  | 5, _ => by decide +kernel
  | 6, _ => by decide +kernel
  | 7, _ => by decide +kernel
  | 8, _ => by decide +kernel
  | 9, _ => by decide +kernel
  | 10, _ => by decide +kernel
  | 11, _ => by decide +kernel
  | 12, _ => by decide +kernel
  | 13, _ => by decide +kernel
  | 14, _ => by decide +kernel
  | 15, _ => by decide +kernel
  | 16, _ => by decide +kernel
  | 17, _ => by decide +kernel
  | 18, _ => by decide +kernel
  | 19, _ => by decide +kernel
  | 20, _ => by decide +kernel
  | 21, _ => by decide +kernel
  | 22, _ => by decide +kernel
  | 23, _ => by decide +kernel
  | 24, _ => by decide +kernel
  | 25, _ => by decide +kernel
  | 26, _ => by decide +kernel
  | 27, _ => by decide +kernel
  | 28, _ => by decide +kernel
  | 29, _ => by decide +kernel
  | 30, _ => by decide +kernel
  | 31, _ => by decide +kernel
  | 32, _ => by decide +kernel
  | 33, _ => by decide +kernel
  | 34, _ => by decide +kernel
  | 35, _ => by decide +kernel
  | 36, _ => by decide +kernel
  | 37, _ => by decide +kernel
  | 38, _ => by decide +kernel
  | 39, _ => by decide +kernel
  | 40, _ => by decide +kernel
  | 41, _ => by decide +kernel
  | 42, _ => by decide +kernel
  | 43, _ => by decide +kernel
  | 44, _ => by decide +kernel
  | 45, _ => by decide +kernel
  | 46, _ => by decide +kernel
  | 47, _ => by decide +kernel
  | 48, _ => by decide +kernel
  | 49, _ => by decide +kernel
  | 50, _ => by decide +kernel
  | 51, _ => by decide +kernel
  | 52, _ => by decide +kernel
  | 53, _ => by decide +kernel
  | 54, _ => by decide +kernel
  | 55, _ => by decide +kernel
  | 56, _ => by decide +kernel
  | 57, _ => by decide +kernel
  | 58, _ => by decide +kernel
  | 59, _ => by decide +kernel
  | 60, _ => by decide +kernel
  | 61, _ => by decide +kernel
  | 62, _ => by decide +kernel
  | 63, _ => by decide +kernel
  | n + 64, h => absurd h (by omega)
theorem db_all (t : Nat) (h : t < 64) : dbTab.getD (2 ^ t * 285870213051353865 % 18446744073709551616 / 288230376151711744) 0 = (t : Int) := by
  have := db_all' t h
  simpa [dbOk] using this
theorem tzF_odd (t m : Nat) (h : 2 ^ t * (2 * m + 1) < 2 ^ 64) : tzF ((2 ^ t * (2 * m + 1) : Nat) : Int) = t := by
  obtain ⟨x, hx⟩ : ∃ x, x = 2 ^ t * (2 * m + 1) := ⟨_, rfl⟩
  have ha := and_neg t m h
  have ht : t < 64 := by
    refine (Nat.pow_lt_pow_iff_right (a := 2) (by omega)).mp (Nat.lt_of_le_of_lt ?_ h)
    exact Nat.le_mul_of_pos_right _ (by omega)
  have hp : 0 < x := by rw [hx]; exact Nat.mul_pos (Nat.pow_pos (by omega)) (by omega)
  rw [← hx] at ha h ⊢
  have hn : IntKind.u64.wrap (-(x : Int)) = ((2 ^ 64 - x : Nat) : Int) := by
    rw [IntKind.wrap_u64]; omega
  have hi : tzI x = ((2 ^ t * 285870213051353865 % 18446744073709551616 / 288230376151711744 : Nat) : Int) := by
    unfold tzI
    rw [hn, bits_and_u64_nat _ _ (by omega) (by omega), ha, IntKind.wrap_u64]
    obtain ⟨q, hq⟩ : ∃ q, q = 2 ^ t := ⟨_, rfl⟩
    rw [← hq]
    omega
  have hd := db_all t ht
  obtain ⟨i, hI⟩ : ∃ i, i = 2 ^ t * 285870213051353865 % 18446744073709551616 / 288230376151711744 := ⟨_, rfl⟩
  rw [← hI] at hi hd
  rw [tzF, if_neg (by omega), hi, Int.toNat_natCast]
  exact hd
theorem odd_part : ∀ (n x : Nat), x < n → 0 < x → ∃ t m, x = 2 ^ t * (2 * m + 1)
  | 0, x, h, _ => by omega
  | n + 1, x, h, h0 => by
    by_cases h2 : x % 2 = 1
    · exact ⟨0, x / 2, by simp; omega⟩
    · obtain ⟨t, m, e⟩ := odd_part n (x / 2) (by omega) (by omega)
      exact ⟨t + 1, m, by rw [Nat.pow_succ, Nat.mul_comm _ 2, Nat.mul_assoc, ← e]; omega⟩
theorem pow_bit (t m j : Nat) (h : j < t) : 2 ^ t * (2 * m + 1) / 2 ^ j % 2 = 0 := by
  obtain ⟨u, rfl⟩ : ∃ u, t = j + (u + 1) := ⟨t - j - 1, by omega⟩
  rw [Nat.pow_add, Nat.mul_assoc, Nat.mul_div_cancel_left _ (Nat.pow_pos (by omega)), Nat.pow_succ, Nat.mul_assoc, Nat.mul_comm, Nat.mul_assoc]
  exact Nat.mul_mod_right 2 _ 
theorem pow_bit_t (t m : Nat) : 2 ^ t * (2 * m + 1) / 2 ^ t % 2 = 1 := by
  rw [Nat.mul_div_cancel_left _ (Nat.pow_pos (by omega))]; omega
/-- The loop's end: h bits are 0, and the next is 1, or h is 11. -/
theorem hgt_end (x h : Nat) (hx : x < 2 ^ 64) (h0 : ∀ j, j < h → bitN x j = 0) (h1 : h = 11 ∨ (h < 11 ∧ bitN x h ≠ 0)) : (if 12 < tzF (x : Int) + 1 then 12 else tzF (x : Int) + 1) = (h : Int) + 1 := by
  by_cases hz : x = 0
  · subst hz
    rcases h1 with rfl | ⟨_, h1⟩
    · rfl
    · exact absurd (by simp [bitN]) h1
  · obtain ⟨t, m, e⟩ := odd_part (x + 1) x (by omega) (by omega)
    have ht : tzF (x : Int) = t := by rw [e]; exact tzF_odd t m (by omega)
    rw [ht]
    have k1 : h ≤ t := by
      refine Nat.le_of_not_lt fun hlt => ?_
      have := h0 t hlt
      rw [bitN_lt hx, e, pow_bit_t] at this
      omega
    rcases h1 with rfl | ⟨h2, h1⟩
    · split <;> omega
    · have k2 : t ≤ h := by
        refine Nat.le_of_not_lt fun hlt => h1 ?_
        rw [bitN_lt hx, e, pow_bit t m h hlt]
      split <;> omega
def mulN (a b : Nat) : Nat := a * b % 2 ^ 64
theorem mulN_lt (a b : Nat) : mulN a b < 2 ^ 64 := Nat.mod_lt _ (by omega)
def mixN (x : Nat) : Nat := exN (mulN (exN (mulN (exN x 30) 13787848793156543929) 27) 10723151780598845931) 31
theorem mixN_lt (x : Nat) : mixN x < 2 ^ 64 := exN_lt (mulN_lt _ _) _
theorem ex_bits (x s : Nat) (hx : x < 2 ^ 64) (p : Nat) (hp : p = 2 ^ s) : bits .xor .u64 (x : Int) ((x : Int) / (p : Int)) = ((exN x s : Nat) : Int) := by
  rw [xorShift_u64 x p (by omega), exN, hp]
theorem mul_bits (x c : Nat) : IntKind.u64.wrap ((x : Int) * (c : Int)) = ((mulN x c : Nat) : Int) := by
  rw [IntKind.wrap_u64, mulN, Int.natCast_emod, Int.natCast_mul]; rfl
theorem mixF_nat (x : Nat) (hx : x < 2 ^ 64) : mixF (x : Int) = ((mixN x : Nat) : Int) := by
  have e1 : x1 (x : Int) = ((exN x 30 : Nat) : Int) := ex_bits x 30 hx 1073741824 (by decide)
  have e2 : x2 (x : Int) = ((mulN (exN x 30) 13787848793156543929 : Nat) : Int) := by
    rw [x2, e1]; exact mul_bits _ 13787848793156543929
  have e3 : x3 (x : Int) = ((exN (mulN (exN x 30) 13787848793156543929) 27 : Nat) : Int) := by
    rw [x3, e2]; exact ex_bits _ 27 (mulN_lt _ _) 134217728 (by decide)
  have e4 : x4 (x : Int) = ((mulN (exN (mulN (exN x 30) 13787848793156543929) 27) 10723151780598845931 : Nat) : Int) := by
    rw [x4, e3]; exact mul_bits _ 10723151780598845931
  rw [mixF, e4]
  exact ex_bits _ 31 (mulN_lt _ _) 2147483648 (by decide)
end Go.Proofs.YtfojphaemfbfnaaDoor
