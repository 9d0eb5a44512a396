/-
  hedgref.ToldKeys, row by row: what it answers. Conditions: the tree reads as t (TR).
-/
import Derived.Test.YtcpponjknmkfaaaToldL
import Derived.Test.YtcpponjknmkfaaaOws
import Derived.Deep.LoopGhost
namespace Go.Proofs.Ytcpponjknmkfaaa
open Go.ChangeShapes Go.WideShapes Go.ChangeAt Go.RowKit
set_option linter.unusedVariables false
set_option linter.unusedSimpArgs false

def ePt : Enc (Option Addr) := ⟨1, fun p => [.pointer p], fun _ => rfl, fun _ u h => by simp at h; subst h; rfl⟩
theorem info_ptr : (Try.prog.info? 31).map (fun i => (i.zero, i.size, i.bytes)) = some (some (.pointer none), 1, 8) := by kernel_rfl
theorem row_ptr : Row Try.prog 68 31 ePt 8 := row_of info_ptr Try.underlying68 rfl rfl (by decide)
theorem RD.ptr {w : World} {A : Option Addr} {n c : Nat} {l : List (Option Addr)} (h : RD w ePt (.slice A n c) l) {k : Nat} (hk : k < l.length) :
    ∃ b o, A = some ⟨b, o, none⟩ ∧ b < w.heap.size ∧ w.cell? ⟨b, o + k, none⟩ = some (.pointer l[k]) := by
  obtain ⟨b, o, rfl, hb, hc⟩ := h.at_ hk
  have := hc 0 (by decide)
  refine ⟨b, o, rfl, hb, ?_⟩
  have e : ePt.size = 1 := rfl
  rw [e] at this
  simpa [ePt] using this
/-- Trees side by side, by their pointers. -/
def TRS (w : World) (ps : List (Option Addr)) (ts : List T) : Prop := ps.length = ts.length ∧ ∀ i (h1 : i < ps.length) (h2 : i < ts.length), TR w ts[i] ps[i]
theorem TRS.nil (w : World) : TRS w [] [] := ⟨rfl, fun i h => by simp at h⟩
theorem TRS.append {w : World} {ps qs : List (Option Addr)} {ts us : List T} (h : TRS w ps ts) (k : TRS w qs us) : TRS w (ps ++ qs) (ts ++ us) := by
  refine ⟨by simp [h.1, k.1], fun i h1 h2 => ?_⟩
  by_cases hlt : i < ps.length
  · rw [List.getElem_append_left hlt, List.getElem_append_left (by rw [← h.1]; exact hlt)]
    exact h.2 i hlt (by rw [← h.1]; exact hlt)
  · simp at h1 h2
    have hl := h.1
    rw [List.getElem_append_right (by omega), List.getElem_append_right (by omega)]
    have := k.2 (i - ps.length) (by omega) (by omega)
    simpa only [hl] using this
theorem TRS.one {w : World} {p : Option Addr} {t : T} (h : TR w t p) : TRS w [p] [t] := ⟨rfl, fun i h1 h2 => by
  obtain rfl : i = 0 := by simpa using h1
  exact h⟩
/-- One side of a node: none, or a tree. -/
def sideT : T → List T
  | .nil => []
  | .node a b c => [.node a b c]
def sideP : Option Addr → List (Option Addr)
  | none => []
  | some a => [some a]
theorem kids_sides (k : Int) (l r : T) : T.kids (.node k l r) = sideT l ++ sideT r := by cases l <;> cases r <;> rfl
theorem TR.side {w : World} {t : T} {p : Option Addr} (h : TR w t p) : TRS w (sideP p) (sideT t) := by
  cases t with
  | nil => have : p = none := h; subst this; exact TRS.nil w
  | node a b c => obtain ⟨g, pl, pr, rfl, h2⟩ := h; exact TRS.one ⟨g, pl, pr, rfl, h2⟩
theorem nodes_len : ∀ ts : List T, (∀ t ∈ ts, t.isNode) → ts.length ≤ sizesT ts
  | [], _ => Nat.le_refl _
  | t :: ts, h => by
    have h1 := nodes_len ts (fun u hu => h u (by simp [hu]))
    have h2 := T.kids_size t (h t (by simp))
    simp only [sizesT, List.map_cons, List.sum_cons, List.length_cons] at *
    omega
theorem kids_len (ts : List T) (h : ∀ t ∈ ts, t.isNode) (k : Nat) : ((ts.take k).flatMap T.kids).length ≤ sizesT ts := by
  have h0 : ∀ t ∈ ts.take k, t.isNode := fun t ht => h t (List.mem_of_mem_take ht)
  have h1 := nodes_len ((ts.take k).flatMap T.kids) (fun u hu => by
    obtain ⟨t, _, hu⟩ := List.mem_flatMap.1 hu
    exact T.kids_node t u hu)
  have h2 := kids_sizes _ h0
  have h3 : sizesT (ts.take k) + sizesT (ts.drop k) = sizesT ts := by
    have e : ts.take k ++ ts.drop k = ts := List.take_append_drop _ _
    have : sizesT (ts.take k ++ ts.drop k) = sizesT (ts.take k) + sizesT (ts.drop k) := by simp only [sizesT, List.map_append, List.sum_append]
    rw [e] at this; exact this.symm
  omega
theorem rowsT_fuel : ∀ (n m : Nat) (ts : List T), (∀ t ∈ ts, t.isNode) → sizesT ts < n → sizesT ts < m → rowsT n ts = rowsT m ts
  | 0, _, _, _, h, _ => by omega
  | n + 1, 0, _, _, _, h => by omega
  | n + 1, m + 1, ts, ht, h1, h2 => by
    by_cases h0 : ts = []
    · rw [rowsT, rowsT, if_pos h0, if_pos h0]
    · have hs := kids_sizes ts ht
      have hl := List.length_pos_iff.2 h0
      rw [rowsT, rowsT, if_neg h0, if_neg h0, rowsT_fuel n m (ts.flatMap T.kids) (fun u hu => by
        obtain ⟨t, _, hu⟩ := List.mem_flatMap.1 hu
        exact T.kids_node t u hu) (by omega) (by omega)]
theorem rows_next {ts : List T} (ht : ∀ t ∈ ts, t.isNode) (h0 : ts ≠ []) : rowsT (sizesT ts + 1) ts = ts.map T.top ++ rowsT (sizesT (ts.flatMap T.kids) + 1) (ts.flatMap T.kids) := by
  have hs := kids_sizes ts ht
  have hl := List.length_pos_iff.2 h0
  rw [rowsT, if_neg h0]
  congr 1
  exact rowsT_fuel _ _ _ (fun u hu => by
    obtain ⟨t, _, hu⟩ := List.mem_flatMap.1 hu
    exact T.kids_node t u hu) (by omega) (by omega)
def TkO (w : World) (sz : Nat) (tg : List Int) (g : Nat) (ov rv : Value) (wr : World) : Prop :=
  ∃ (ts : List T) (ps : List (Option Addr)) (acc : List Int), g = sizesT ts ∧ (∀ t ∈ ts, t.isNode) ∧ TRS w ps ts ∧ OW wr w.heap.size 3 eInt ov acc ∧ OW wr w.heap.size 31 ePt rv ps ∧ acc ++ rowsT (sizesT ts + 1) ts = tg ∧ acc.length + sizesT ts = sz ∧ Kp w wr
def TkM (w wa : World) (ts : List T) (ps : List (Option Addr)) (acc : List Int) (rv : Value) (ov nv iv : Value) (wr : World) : Prop :=
  ∃ (k : Nat) (qs : List (Option Addr)), k ≤ ts.length ∧ iv = .int .i64 (k : Int) ∧ OW wr w.heap.size 3 eInt ov (acc ++ (ts.take k).map T.top) ∧ OW wr wa.heap.size 31 ePt nv qs ∧ TRS w qs ((ts.take k).flatMap T.kids) ∧ OW wr w.heap.size 31 ePt rv ps ∧ Kp w wr ∧ wa.heap.size ≤ wr.heap.size
def TkI (w wa : World) (sd qs ps : List (Option Addr)) (out : List Int) (ov rv lv : Value) (nv jv : Value) (wr : World) : Prop :=
  ∃ (j : Nat), j ≤ sd.length ∧ jv = .int .i64 (j : Int) ∧ OW wr wa.heap.size 31 ePt nv (qs ++ (sd.take j).flatMap sideP) ∧ OW wr w.heap.size 3 eInt ov out ∧ OW wr w.heap.size 31 ePt rv ps ∧ RD wr ePt lv sd ∧ Kp w wr ∧ wa.heap.size ≤ wr.heap.size ∧ nv.ownBlock ≠ lv.ownBlock
set_option maxRecDepth 100000 in
set_option maxHeartbeats 8000000 in
theorem told3_any (t : T) (v : Option Addr) (w : World) (h : TR w t v) (hsz : t.size ≤ 100000) : Calls Try.prog 18 #[.pointer v, .int .i64 3] w (RetOW 3 eInt (told3 t) w) := by
  cases t with
  | nil =>
    have h' : v = none := h
    subst h'
    go_enter Try.func18, Try.ntmps18
    go_wp2
    go_ret
    exact ⟨_, rfl, OW.nil, Below.refl _ _⟩
  | node k l r =>
    have HT := hide h
    obtain ⟨b, pl, pr, rfl, hb, c0, c1, c2, hl, hr⟩ := h
    obtain ⟨tg, htg⟩ : ∃ tg, tg = told3 (.node k l r) := ⟨_, rfl⟩
    obtain ⟨sz, hsz2⟩ : ∃ sz, sz = (T.node k l r).size := ⟨_, rfl⟩
    obtain ⟨W1, hW1⟩ : ∃ W1, W1 = w.alloc (.cells #[.pointer (some ⟨b, 0, none⟩)] 31) := ⟨_, rfl⟩
    have HREL : Hid (TkO w sz tg sz (.slice none 0 0) (.slice (some ⟨w.heap.size, 0, none⟩) 1 1) W1) := hide ⟨[.node k l r], [some ⟨b, 0, none⟩], [], by simp [sizesT, hsz2], fun t h => by simp at h; subst h; trivial, TRS.one HT.out, OW.nil, by
      rw [hW1]
      exact BK.ow (l := [some ⟨b, 0, none⟩]) (E := ePt) (c := 1) (heap_alloc_new w _) (Nat.le_refl _) (Nat.le_refl _) (by simp [maxLen]) rfl rfl, by rw [htg]; simp [told3, sizesT], by simp [sizesT, hsz2], by rw [hW1]; exact (Kp.refl w).alloc⟩
    have HW1 := hide hW1
    have HTG := hide htg
    rw [← hsz2] at hsz
    rw [← htg]
    clear hb c0 c1 c2 hl hr htg hsz2 hW1
    go_enter Try.func18, Try.ntmps18
    go_wp2
    rw [← HW1.out]
    go_loopg [5, 6] sz (fun g ov rv wr => TkO w sz tg g ov rv wr)
    case atStart => exact HREL.out
    case round =>
      clear HREL
      obtain ⟨ts, ps, acc, hg, hnode, htrs, ho, hrw, htgt, hlen, hkp⟩ := hrel
      obtain ⟨A6, c6, hv6, hc6, hm6⟩ := hrw.rd.shape
      subst hv6
      have HNODE := hide hnode
      have HTRS := hide htrs
      have HO := hide ho
      have HRW := hide hrw
      have HTGT := hide htgt
      have HLEN := hide hlen
      have HKP := hide hkp
      have HG := hide hg
      have hpl := htrs.1
      clear hnode htrs ho hrw htgt hlen hkp hg
      by_cases h0 : ts = []
      · have hp0 : ps = [] := List.eq_nil_of_length_eq_zero (by rw [hpl, h0]; rfl)
        subst hp0
        have HE : Hid (acc = tg) := hide (by have := HTGT.out; rw [h0] at this; simpa [rowsT] using this)
        have HH := hide h0
        clear h0 hpl
        simp only [List.length_nil] at *
        go_wp2
        go_ret
        exact ⟨_, rfl, by rw [← HE.out]; exact HO.out, HKP.out.bel⟩
      · have hpos : 0 < ps.length := by rw [hpl]; exact List.length_pos_iff.2 h0
        have hd : decide (0 < ps.length) = true := decide_eq_true hpos
        obtain ⟨wa, rfl⟩ : ∃ x, x = wr := ⟨_, rfl⟩
        have HREL2 : Hid (TkM w wa ts ps acc (.slice A6 ps.length c6) u5 (.slice none 0 0) (.int .i64 0) wa) := hide ⟨0, [], by omega, rfl, by simpa using HO.out, OW.nil, by simpa using TRS.nil w, HRW.out, HKP.out, Nat.le_refl _⟩
        have HLO := hide HRW.out.lo
        have HWA := hide HKP.out.size
        have HPL := hide hpl
        have H0 := hide h0
        have hszs : sizesT ts ≤ 100000 := by have := HLEN.out; omega
        have hkz := kids_sizes ts HNODE.out
        have HSZ := hide hszs
        have HKZ := hide hkz
        clear h0 hpl hpos hszs hkz
        go_wp2
        go_loopw [5, 7, 62] (TkM w wa ts ps acc (.slice A6 ps.length c6)) (fun _ _ i _ => ts.length - (intOf i).toNat)
        case atStart => exact HREL2.out
        case round =>
          clear HREL2
          obtain ⟨k2, qs, hk, rfl, ho, hnx, hq, hrw, hkp, hsz9⟩ := hrel
          have HO := hide ho
          have HNX := hide hnx
          have HQ := hide hq
          have HRW := hide hrw
          have HKP := hide hkp
          have HSW := hide hsz9
          have hpl := HPL.out
          clear ho hnx hq hrw hkp hsz9
          by_cases hlt : k2 < ts.length
          · have hltp : k2 < ps.length := by omega
            obtain ⟨bb, oo, rfl, _, x0⟩ := HRW.out.rd.ptr hltp
            have htr := HTRS.out.2 k2 hltp hlt
            have hnd := HNODE.out ts[k2] (List.getElem_mem hlt)
            obtain ⟨tk, htk⟩ : ∃ tk, tk = ts[k2] := ⟨_, rfl⟩
            obtain ⟨pk, hpk⟩ : ∃ pk, pk = ps[k2] := ⟨_, rfl⟩
            rw [← htk, ← hpk] at htr
            rw [← htk] at hnd
            rw [← hpk] at x0
            cases tk with
            | nil => exact absurd hnd id
            | node key tl tr =>
              obtain ⟨bk, ql, qr, rfl, hbk, y0, y1, y2, htl, htrr⟩ := htr
              have HY := hide (fun W (h : Kp w W) => (And.intro (h.cell y1) (h.cell y2)))
              have y0 := HKP.out.cell y0
              have y1 := HKP.out.cell y1
              have y2 := HKP.out.cell y2
              have HN : Hid (acc ++ (ts.take k2).map T.top ++ [key] = acc ++ (ts.take (k2 + 1)).map T.top) := hide (by rw [List.take_succ_eq_append_getElem hlt, List.map_append, ← htk, List.append_assoc]; rfl)
              have HKD : Hid ((ts.take k2).flatMap T.kids ++ (sideT tl ++ sideT tr) = (ts.take (k2 + 1)).flatMap T.kids) := hide (by rw [List.take_succ_eq_append_getElem hlt, List.flatMap_append, ← htk]; simp [kids_sides])
              have HSD := hide (htl.side.append htrr.side)
              have HQL : Hid (qs.length ≤ 100000) := hide (by have h1 := kids_len ts HNODE.out k2; have h2 := HQ.out.1; have h3 := HSZ.out; omega)
              have hal : (acc ++ (ts.take k2).map T.top).length ≤ 100000 := by
                have h1 := HLEN.out
                have h2 := HKZ.out
                simp only [List.length_append, List.length_map, List.length_take]
                omega
              have HM1 : Hid (((acc ++ (ts.take k2).map T.top).length + [key].length) * 8 ≤ 140737488355328) := hide (by simp only [List.length_singleton]; omega)
              have HM2 : Hid ((acc ++ (ts.take k2).map T.top).length + [key].length ≤ maxLen) := hide (by simp only [List.length_singleton]; unfold maxLen; omega)
              obtain ⟨A7, N7, c7, rfl⟩ := HO.out.rd.slice
              obtain ⟨A8, N8, c8, rfl⟩ := HNX.out.rd.slice
              clear htk hpk hnd hbk htl htrr hal hpl
              go_wp2_with ((at_builtin; (with_reducible refine list_app (B := w.heap.size) (l := (acc ++ (ts.take k2).map T.top)) (m := [key]) row_int (.slice A7 N7 c7) ?_ (.tmp 66) (.tmp 71) ?_ ?_ ?_ ?_ HM1.out HM2.out ?_ ?_); (with_reducible rfl); (with_reducible rfl); rfl; (exact HO.out.alloc _); (show RD _ _ (.slice (some ⟨_, 0, none⟩) 1 1) _; (focus ((repeat (first | (with_reducible assumption) | exact RD.new1 _ rfl | (refine RD.new1e _ ?_ rfl; simp; done) | (with_reducible apply RD.alloc) | (with_reducible apply RD.drew) | (with_reducible apply RD.drewN) | ((with_reducible apply RD.belowR); (with_reducible assumption)))); done))); (have := HKP.out.size; simp; omega); intro v3 w3 ho3 hg3 hat3); have hk3 : Kp w w3 := Kp.app hg3 HKP.out.alloc HO.out.hi; have HK3 := hide hk3; have HO3 := hide ho3; have HNX3 := hide (((HNX.out.alloc _).kept hg3 (OW.apart HNX.out HO.out (by decide)))); have HRW3 := hide (((HRW.out.alloc _).kept hg3 (OW.apart HRW.out HO.out (by decide)))); have HSW3 : Hid (wa.heap.size ≤ w3.heap.size) := hide (by have h1 := hg3.size; have h2 := HSW.out; simp at h1; omega); obtain ⟨A9, N9, c9, rfl⟩ := ho3.rd.slice; have yy1 := (HY.out w3 hk3).1; have yy2 := (HY.out w3 hk3).2; clear ho3 hg3 hat3)
              have KS : Hid (∀ W', Kp w3 W' → (W'.cell? ⟨bk, 1, none⟩ = some (.pointer ql) ∧ W'.cell? ⟨bk, 2, none⟩ = some (.pointer qr) ∧ Kp w3 W')) := hide fun W' h => ⟨h.cell yy1, h.cell yy2, h⟩
              have KD0 := Kp.refl w3
              have KD1 := KD0.drew
              go_region_held3 (fun w' => w'.cell? ⟨bk, 1, none⟩ = some (.pointer ql) ∧ w'.cell? ⟨bk, 2, none⟩ = some (.pointer qr) ∧ Kp w3 w') ((go_split_ands; refine KS.out _ ?_; (focus ((repeat (first | (with_reducible assumption) | (with_reducible exact Kp.refl _) | (with_reducible apply Kp.drew) | (with_reducible apply Kp.drewN) | ((with_reducible apply Kp.setR); (focus (first | (with_reducible assumption) | (simp; done) | (simp; omega)))) | (with_reducible apply Kp.alloc) | ((with_reducible apply Kp.call); (with_reducible assumption)) | ((with_reducible apply Kp.app); (with_reducible assumption)))); done)))) (fail)
              all_goals
                clear KS KD0 KD1 hk3
                obtain ⟨W4, hW4⟩ : ∃ W4, W4 = (w3.alloc (.cells #[.pointer ql, .pointer qr] 31)).drew := ⟨_, rfl⟩
                have k34 : Kp w3 W4 := by rw [hW4]; exact (Kp.refl w3).alloc.drew
                have HREL3 : Hid (TkI w wa [ql, qr] qs ps (acc ++ (ts.take k2).map T.top ++ [key]) (.slice A9 N9 c9) (.slice (some ⟨bb, oo, none⟩) ps.length c6) (.slice (some ⟨w3.heap.size, 0, none⟩) 2 2) (.slice A8 N8 c8) (.int .i64 0) W4) := hide ⟨0, by simp, rfl, by simpa using HNX3.out.kp k34, HO3.out.kp k34, HRW3.out.kp k34, by
                  rw [hW4]
                  exact (RD.block (l := [ql, qr]) (E := ePt) (heap_alloc_new w3 _) rfl (by simp [maxLen])).drew, HK3.out.trans k34, by have := k34.size; have := HSW3.out; omega, fun h => by have := HNX3.out.lo _ h; simp at this⟩
                have HW4 := hide hW4
                clear hW4 k34 HO HNX HRW HO3 HNX3 HRW3 yy1 yy2 y0 y1 y2 x0
                go_wp2_with fail
                rw [← HW4.out]
                go_loopw [7, 83] (TkI w wa [ql, qr] qs ps (acc ++ (ts.take k2).map T.top ++ [key]) (.slice A9 N9 c9) (.slice (some ⟨bb, oo, none⟩) ps.length c6) (.slice (some ⟨w3.heap.size, 0, none⟩) 2 2)) (fun _ j _ => 2 - (intOf j).toNat)
                case atStart => exact HREL3.out
                case round =>
                  clear HREL3
                  obtain ⟨j, hj, rfl, hnx, ho, hrw, hlv, hkp, hsz9, hnl⟩ := hrel
                  have HNL := hide hnl
                  have HNX := hide hnx
                  have HO := hide ho
                  have HRW := hide hrw
                  have HLV := hide hlv
                  have HKP := hide hkp
                  have HSW := hide hsz9
                  clear hnx ho hrw hlv hkp hsz9 hnl
                  simp only [List.length_cons, List.length_nil] at hj
                  by_cases hj2 : j < 2
                  · obtain ⟨b9, o9, he9, _, z0⟩ := HLV.out.ptr (k := j) (by simpa using hj2)
                    injection he9 with he9
                    injection he9 with e1 e2
                    subst e1 e2
                    rw [Nat.zero_add] at z0
                    obtain ⟨pp, hpp⟩ : ∃ pp, pp = [ql, qr][j]'(by simpa using hj2) := ⟨_, rfl⟩
                    rw [← hpp] at z0
                    have HTK : Hid (([ql, qr].take (j + 1)).flatMap sideP = ([ql, qr].take j).flatMap sideP ++ sideP pp) := hide (by
                      rw [List.take_succ_eq_append_getElem (by simpa using hj2), List.flatMap_append, ← hpp]; simp)
                    have d9 : decide ((j : Int) < 2) = true := by simp; omega
                    have hj9 : (j : Int) < 2 := by omega
                    clear hpp
                    cases pp with
                    | none =>
                      go_wp2
                      go_roundw
                      case rel => exact ⟨j + 1, by simp; omega, by go_num, by rw [HTK.out]; simpa [sideP] using HNX.out, HO.out, HRW.out, HLV.out, HKP.out, HSW.out, HNL.out⟩
                      case measure => simp [intOf]; omega
                    | some pa =>
                      have hll : (qs ++ ([ql, qr].take j).flatMap sideP).length ≤ 100004 := by
                        have h1 := HQL.out
                        have h2 : (([ql, qr].take j).flatMap sideP).length ≤ 2 := by
                          rcases (show j = 0 ∨ j = 1 by omega) with rfl | rfl
                          · simp
                          · cases ql <;> simp [sideP]
                        simp only [List.length_append]; omega
                      have HM3 : Hid (((qs ++ ([ql, qr].take j).flatMap sideP).length + [some pa].length) * 8 ≤ 140737488355328) := hide (by simp only [List.length_singleton]; omega)
                      have HM4 : Hid ((qs ++ ([ql, qr].take j).flatMap sideP).length + [some pa].length ≤ maxLen) := hide (by simp only [List.length_singleton]; unfold maxLen; omega)
                      obtain ⟨A10, N10, c10, rfl⟩ := HNX.out.rd.slice
                      have HLVL : Hid (w3.heap.size < wr.heap.size) := hide (HLV.out.lo (by simp) _ rfl)
                      clear hll
                      go_wp2_with ((at_builtin; (with_reducible refine list_app (B := wa.heap.size) (l := (qs ++ ([ql, qr].take j).flatMap sideP)) (m := [some pa]) row_ptr (.slice A10 N10 c10) ?_ (.tmp 89) (.tmp 91) ?_ ?_ ?_ ?_ HM3.out HM4.out ?_ ?_); (with_reducible rfl); (with_reducible rfl); rfl; (exact HNX.out.alloc _); (show RD _ _ (.slice (some ⟨_, 0, none⟩) 1 1) _; (focus ((repeat (first | (with_reducible assumption) | exact RD.new1 _ rfl | (refine RD.new1e _ ?_ rfl; simp; done) | (with_reducible apply RD.alloc) | (with_reducible apply RD.drew) | (with_reducible apply RD.drewN) | ((with_reducible apply RD.belowR); (with_reducible assumption)))); done))); (have := HSW.out; simp; omega); intro v6 w6 ho6 hg6 hat6))
                      go_roundw
                      case rel => exact ⟨j + 1, by simp; omega, by go_num, by rw [HTK.out, ← List.append_assoc]; exact ho6, (HO.out.alloc _).kept hg6 (OW.apart HO.out HNX.out (by decide)), (HRW.out.alloc _).kept hg6 (by
                          cases hq : (Value.slice (some (⟨bb, oo, none⟩ : Addr)) ps.length c6).ownBlock with
                          | none => exact .inl rfl
                          | some q => exact .inr (fun e => by have h1 := HLO.out q hq; have h2 := HNX.out.hi q e.symm; omega)),
                        RD.grownR hg6 (fun e => HNL.out e.symm) (HLV.out.alloc _), Kp.app hg6 HKP.out.alloc (HNX.out.hi.mono HWA.out), by have := hg6.size; have := HSW.out; simp at *; omega, fun e => by
                          rcases hat6 with h | h
                          · exact HNL.out (h.symm.trans e)
                          · rw [h] at e; have h9 := HLVL.out; injection e with e; simp at e; omega⟩
                      case measure => simp [intOf]; omega
                  · obtain rfl : j = 2 := by omega
                    have d9 : decide ((2 : Int) < 2) = false := rfl
                    have HEQ : Hid (([ql, qr].take 2).flatMap sideP = sideP ql ++ sideP qr) := hide (by simp)
                    go_wp2
                    go_roundw
                    case rel => exact ⟨k2 + 1, qs ++ (sideP ql ++ sideP qr), by omega, by go_num, by rw [← HN.out]; exact HO.out, by rw [← HEQ.out]; exact HNX.out, by rw [← HKD.out]; exact HQ.out.append HSD.out, HRW.out, HKP.out, HSW.out⟩
                    case measure => simp [intOf]; omega
          · have hkk : ts.take k2 = ts := List.take_of_length_le (by omega)
            rw [hkk] at HO HQ
            have HND2 := hide (fun u (hu : u ∈ ts.flatMap T.kids) => by
              obtain ⟨t, _, hu⟩ := List.mem_flatMap.1 hu
              exact T.kids_node t u hu : ∀ u ∈ ts.flatMap T.kids, u.isNode)
            have HT2 : Hid (acc ++ ts.map T.top ++ rowsT (sizesT (ts.flatMap T.kids) + 1) (ts.flatMap T.kids) = tg) := hide (by rw [List.append_assoc, ← rows_next HNODE.out H0.out]; exact HTGT.out)
            clear hkk
            have d7 : decide (k2 < ps.length) = false := by simp; omega
            clear hpl
            go_wp2
            go_roundg (sizesT (ts.flatMap T.kids))
            case measure => have h1 := HKZ.out; have h2 := HG.out; have h3 := List.length_pos_iff.2 H0.out; omega
            case rel => exact ⟨ts.flatMap T.kids, qs, acc ++ ts.map T.top, rfl, HND2.out, HQ.out, HO.out, HNX.out.more HWA.out, HT2.out, by have h1 := HLEN.out; have h2 := HKZ.out; simp only [List.length_append, List.length_map]; omega, HKP.out⟩
end Go.Proofs.Ytcpponjknmkfaaa
