/-
  hedgref.Stops: what it answers. Conditions: the keys read as ints (RD), rise and are in their bounds; so is the key.
-/
import Derived.Test.YtfojphaemfbfnaaDoorG18
import Derived.Test.YtfojphaemfbfnaaDoorG16

namespace Go.Proofs.YtfojphaemfbfnaaDoor
open Go.ChangeShapes Go.WideShapes Go.ChangeAt Go.RowKit
set_option linter.unusedVariables false
set_option linter.unusedSimpArgs false

def stL (l : List Int) (key la : Int) : List Int := l.filter fun k => decide (la + 1 ≤ k ∧ k ≤ key - 1)
def lastOr (l : List Int) (la : Int) : Int := l.getLast?.getD la
theorem lastOr_nil (la : Int) : lastOr [] la = la := rfl
theorem lastOr_snoc (l : List Int) (y la : Int) : lastOr (l ++ [y]) la = y := by simp [lastOr]
theorem lastOr_mem (l : List Int) (la : Int) : (l = [] ∧ lastOr l la = la) ∨ lastOr l la ∈ l := by
  rcases List.eq_nil_or_concat l with rfl | ⟨l', y, rfl⟩
  · exact .inl ⟨rfl, rfl⟩
  · right
    rw [List.concat_eq_append, lastOr_snoc]; simp
theorem stL_take (l : List Int) (key la : Int) (k : Nat) (h : k < l.length) : stL (l.take (k + 1)) key la = stL (l.take k) key la ++ if la + 1 ≤ l[k] ∧ l[k] ≤ key - 1 then [l[k]] else [] := by
  unfold stL
  rw [List.take_succ_eq_append_getElem h, List.filter_append]
  congr 1
  by_cases e : la + 1 ≤ l[k] ∧ l[k] ≤ key - 1
  · rw [if_pos e, List.filter_cons, if_pos (by simp only [decide_eq_true_eq]; exact e), List.filter_nil]
  · rw [if_neg e, List.filter_cons, if_neg (by simp only [decide_eq_true_eq]; exact e), List.filter_nil]
theorem pair_lt {l : List Int} (hp : l.Pairwise (· < ·)) {j k : Nat} (hjk : j < k) (hk : k < l.length) : l[j] < l[k] := List.pairwise_iff_getElem.1 hp j k (by omega) hk hjk
theorem last_in (l : List Int) (key la : Int) (k : Nat) : (lastOr (stL (l.take k) key la) la = la) ∨ (lastOr (stL (l.take k) key la) la ∈ l.take k ∧ la < lastOr (stL (l.take k) key la) la) := by
  rcases lastOr_mem (stL (l.take k) key la) la with ⟨_, h⟩ | h
  · exact .inl h
  · right
    unfold stL at h
    rw [List.mem_filter] at h
    unfold stL
    refine ⟨h.1, ?_⟩
    have := h.2
    simp only [decide_eq_true_eq] at this
    omega
theorem last_ok {l : List Int} (hp : l.Pairwise (· < ·)) (key la : Int) (k : Nat) (h : k < l.length) : (lastOr (stL (l.take k) key la) la + 1 ≤ l[k] ∧ l[k] ≤ key - 1) ↔ (la + 1 ≤ l[k] ∧ l[k] ≤ key - 1) := by
  rcases last_in l key la k with h1 | ⟨h1, h2⟩
  · rw [h1]
  · obtain ⟨j, hj, e⟩ := List.getElem_of_mem h1
    rw [List.getElem_take] at e
    have hj2 : j < k := by simp at hj; omega
    have := pair_lt hp hj2 h
    omega
theorem krF_pair : ∀ (l : List Int) (la : Int), krF la l = 0 → l.Pairwise (· < ·) ∧ ∀ x ∈ l, la < x ∧ x ≤ 1000000
  | [], _, _ => ⟨List.Pairwise.nil, fun x hx => by cases hx⟩
  | y :: t, la, h => by
    unfold krF at h
    split at h
    · next hc =>
      obtain ⟨h1, h2⟩ := krF_pair t y h
      refine ⟨List.Pairwise.cons (fun x hx => (h2 x hx).1) h1, fun x hx => ?_⟩
      rcases List.mem_cons.1 hx with rfl | hx
      · omega
      · have := h2 x hx; omega
    · omega
theorem krL_in {l : List Int} (h : krL l = 0) : l.length ≤ 200 ∧ l.Pairwise (· < ·) ∧ ∀ x ∈ l, 0 ≤ x ∧ x ≤ 1000000 := by
  unfold krL at h
  split at h
  · omega
  · next hl =>
    obtain ⟨h1, h2⟩ := krF_pair l (-1) h
    exact ⟨by omega, h1, fun x hx => by have := h2 x hx; omega⟩
/-- Stops: in each row those that are less than the key, and more than all ahead. -/
def stRow (ks : List Int) (key la : Int) (r : Nat) : List Int := stL (rowK ks r) key la
def stAll (ks : List Int) (key : Int) : Nat → List IP × Int
  | 0 => ([], -1)
  | n + 1 => ((stAll ks key n).1 ++ (stRow ks key (stAll ks key n).2 (11 - n)).map (fun k => (((11 - n : Nat) : Int), k)), lastOr (stRow ks key (stAll ks key n).2 (11 - n)) (stAll ks key n).2)
theorem rowK_pair {ks : List Int} (h : ks.Pairwise (· < ·)) (r : Nat) : (rowK ks r).Pairwise (· < ·) := List.Pairwise.filter _ h
theorem rowK_mem {ks : List Int} {r : Nat} {x : Int} (h : x ∈ rowK ks r) : x ∈ ks := (List.mem_filter.1 h).1
theorem stAll_empty {ks : List Int} {R : Nat} (h : ∀ q, R ≤ q → rowK ks q = []) (key : Int) : ∀ n, n ≤ 12 - R → stAll ks key n = ([], -1)
  | 0, _ => rfl
  | n + 1, hn => by
    rw [stAll, stAll_empty h key n (by omega)]
    unfold stRow
    rw [h (11 - n) (by omega)]; rfl
theorem stAll_in {ks : List Int} (hb : ∀ x ∈ ks, 0 ≤ x ∧ x ≤ 1000000) (key : Int) : ∀ n, -1 ≤ (stAll ks key n).2 ∧ (stAll ks key n).2 ≤ 1000000 ∧ (stAll ks key n).1.length ≤ n * ks.length
  | 0 => by simp [stAll]
  | n + 1 => by
    obtain ⟨h1, h2, h3⟩ := stAll_in hb key n
    rw [stAll]
    simp only
    refine ⟨?_, ?_, ?_⟩
    · rcases lastOr_mem (stRow ks key (stAll ks key n).2 (11 - n)) (stAll ks key n).2 with ⟨_, h⟩ | h
      · rw [h]; exact h1
      · have := hb _ (rowK_mem (List.mem_filter.1 h).1); omega
    · rcases lastOr_mem (stRow ks key (stAll ks key n).2 (11 - n)) (stAll ks key n).2 with ⟨_, h⟩ | h
      · rw [h]; exact h2
      · have := hb _ (rowK_mem (List.mem_filter.1 h).1); omega
    · rw [List.length_append, List.length_map]
      have h4 : (stRow ks key (stAll ks key n).2 (11 - n)).length ≤ ks.length := Nat.le_trans (List.length_filter_le _ _) (rowK_len _ _)
      rw [Nat.add_mul]; omega
theorem row_stop : Row Tryd.prog 27 37 ePair 16 := row_of (z := .agg #[.int .i64 0, .int .i64 0]) (n := 2) (by kernel_rfl) Tryd.underlying27 rfl rfl (by decide)
def StRel (ks : List Int) (key : Int) (w : World) (R : Nat) (ov lv kv : Value) (wr : World) : Prop :=
  ∃ j : Nat, j ≤ R ∧ kv = .int .i64 ((j : Int) - 1) ∧ OW wr w.heap.size 37 ePair ov (stAll ks key (12 - j)).1 ∧ lv = .int .i64 (stAll ks key (12 - j)).2 ∧ Kp w wr
def SjRel (l : List Int) (key la : Int) (acc : List IP) (r : Nat) (w : World) (ov lv iv : Value) (wr : World) : Prop :=
  ∃ k : Nat, k ≤ l.length ∧ iv = .int .i64 (k : Int) ∧ OW wr w.heap.size 37 ePair ov (acc ++ (stL (l.take k) key la).map (fun x => ((r : Int), x))) ∧ lv = .int .i64 (lastOr (stL (l.take k) key la) la) ∧ Kp w wr
set_option maxRecDepth 100000 in
set_option maxHeartbeats 4000000 in
theorem stopsR_any (ks : List Int) (key : Int) (v : Value) (w : World) (hr : RD w eInt v ks) (hkr : krL ks = 0) (hk0 : 0 ≤ key) (hk1 : key ≤ 1000000) : Calls Tryd.prog 18 #[v, .int .i64 key] w (RetRD ePair (stAll ks key 12).1 w) := by
  obtain ⟨hlen, hpair, hbnd⟩ := krL_in hkr
  obtain ⟨R, hR1, hR2, hR3, hR4⟩ := rowsN_range ks
  have HRO := hide (rowsOf_any ks v w hr (by omega))
  rw [hR2] at HRO
  have HPAIR := hide hpair
  have HBND := hide hbnd
  have HEMP := hide (stAll_empty hR3 key (12 - R) (Nat.le_refl _))
  have HIN := hide (fun n => stAll_in hbnd key n)
  have sR : IntKind.i64.wrap ((R : Int) - 1) = (R : Int) - 1 := IntWalk.i64_in _ (by omega)
  have sK : IntKind.i64.wrap (key - 1) = key - 1 := IntWalk.i64_in _ (by omega)
  clear hr hkr hpair hbnd hR2 hR3 hR4
  go_enter Tryd.func18, Tryd.ntmps18
  go_wp2_with fail
  with_reducible refine HRO.out.mono ?_
  rintro e w1 ⟨u, rfl, hrds, kk1⟩
  obtain ⟨A, c, hu, hc, hm⟩ := hrds.shape
  rw [List.length_map, List.length_range] at hu hc
  subst hu
  have HRDS := hide hrds
  have HREL : Hid (StRel ks key w1 R (.slice none 0 0) (.int .i64 (-1)) (.int .i64 ((R : Int) - 1)) w1) := hide ⟨R, Nat.le_refl _, rfl, by rw [HEMP.out]; exact OW.nil, by rw [HEMP.out], Kp.refl _⟩
  clear hrds
  go_wp2
  go_loopw [5, 6, 8] (StRel ks key w1 R) (fun _ _ k _ => (intOf k + 1).toNat)
  case atStart => exact HREL.out
  case round =>
    clear HREL
    obtain ⟨j, hj, rfl, hout, rfl, hkp⟩ := hrel
    have HOUT := hide hout
    have HKP := hide hkp
    clear hout
    cases j with
    | zero =>
      go_wp2
      go_ret
      exact ⟨_, rfl, HOUT.out.rd, (kk1.trans HKP.out).bel⟩
    | succ r =>
      have e0 : ((r + 1 : Nat) : Int) - 1 = (r : Int) := by omega
      rw [e0]
      obtain ⟨b, o, ux, rfl, _, cx1, rx⟩ := HRDS.out.at_ (k := r) (by simp; omega)
      have cx := hkp.cell cx1
      have erow : ((List.range R).map (rowK ks))[r]'(by simp; omega) = rowK ks r := by simp
      rw [erow] at rx
      obtain ⟨l, hl⟩ : ∃ l, l = rowK ks r := ⟨_, rfl⟩
      rw [← hl] at rx
      obtain ⟨Ax, cxx, hux, hcx, hmx⟩ := rx.shape
      subst hux
      have HRX := hide rx
      have hlp : l.Pairwise (· < ·) := by rw [hl]; exact rowK_pair HPAIR.out r
      have hlb : ∀ x ∈ l, 0 ≤ x ∧ x ≤ 1000000 := fun x hx => HBND.out x (rowK_mem (by rw [← hl]; exact hx))
      have hll : l.length ≤ 200 := by rw [hl]; exact Nat.le_trans (rowK_len _ _) hlen
      obtain ⟨la, hla⟩ : ∃ la, la = (stAll ks key (12 - (r + 1))).2 := ⟨_, rfl⟩
      obtain ⟨acc, hacc⟩ : ∃ acc, acc = (stAll ks key (12 - (r + 1))).1 := ⟨_, rfl⟩
      rw [← hla]
      rw [← hacc] at HOUT
      obtain ⟨i1, i2, i3⟩ := HIN.out (12 - (r + 1))
      rw [← hla] at i1 i2
      rw [← hacc] at i3
      have hal : acc.length ≤ 2400 := Nat.le_trans i3 (Nat.le_trans (Nat.mul_le_mul (show 12 - (r + 1) ≤ 12 by omega) hlen) (by omega))
      have HNXT : Hid (stAll ks key (12 - r) = (acc ++ (stL l key la).map (fun x => ((r : Int), x)), lastOr (stL l key la) la)) := hide (by
        rw [show 12 - r = (12 - (r + 1)) + 1 from by omega, stAll, ← hla, ← hacc, show 11 - (12 - (r + 1)) = r from by omega]
        unfold stRow
        rw [← hl])
      have HLP := hide hlp
      have HLB := hide hlb
      have j0 : (0 : Int) ≤ (r : Int) := by omega
      have j1 : (r : Int) < (R : Int) := by omega
      have HREL : Hid (SjRel l key la acc r w1 _ (.int .i64 la) (.int .i64 0) wr) := hide ⟨0, by omega, rfl, by rw [List.take_zero]; simpa [stL] using HOUT.out, by rw [List.take_zero]; rfl, hkp⟩
      have HJ := hide hj
      clear rx erow hl hla hacc i3 hlp hlb HOUT hj cx1
      go_wp2
      go_loopw [5, 6, 25] (SjRel l key la acc r w1) (fun _ _ k _ => l.length - (intOf k).toNat)
      case atStart => exact HREL.out
      case round =>
        clear HREL cx
        obtain ⟨k, hk, rfl, hout, rfl, hkp2⟩ := hrel
        have HOUT := hide hout
        have HK2 := hide hkp2
        have HHI := hide hout.hi
        obtain ⟨A5, N5, c5, hv5⟩ : ∃ A N c, u5 = .slice A N c := by
          obtain ⟨A, c, e, _⟩ := hout.rd
          exact ⟨A, _, c, e⟩
        subst hv5
        have hlin := last_in l key la k
        obtain ⟨la2, hla2⟩ : ∃ la2, la2 = lastOr (stL (l.take k) key la) la := ⟨_, rfl⟩
        rw [← hla2] at hlin ⊢
        have hb2 : -1 ≤ la2 ∧ la2 ≤ 1000000 := by
          rcases hlin with h | ⟨h, _⟩
          · omega
          · have := HLB.out _ (List.mem_of_mem_take h); omega
        have s2 : IntKind.i64.wrap (la2 + 1) = la2 + 1 := IntWalk.i64_in _ (by omega)
        have hsl : (stL (l.take k) key la).length ≤ 200 := Nat.le_trans (List.length_filter_le _ _) (by simp; omega)
        have HLA2 := hide hla2
        clear hout hlin hla2
        by_cases hlt : k < l.length
        · obtain ⟨b3, o3, hAx, _, c0⟩ := (HRX.out.kp HK2.out).int hlt
          subst hAx
          have hok := last_ok HLP.out key la k hlt
          have htk := stL_take l key la k hlt
          rw [← HLA2.out] at hok
          obtain ⟨y, hy⟩ : ∃ y, y = l[k] := ⟨_, rfl⟩
          rw [← hy] at c0 hok htk
          by_cases hgo : la2 + 1 ≤ y ∧ y ≤ key - 1
          · rw [if_pos (hok.1 hgo)] at htk
            have HTK := hide htk
            have HBT := hide ((btw_iff y (la2 + 1) (key - 1)).2 hgo)
            have hxl : (acc ++ (stL (l.take k) key la).map (fun x => ((r : Int), x))).length ≤ 2600 := by simp; omega
            obtain ⟨X, hX⟩ : ∃ X, X = acc ++ (stL (l.take k) key la).map (fun x => ((r : Int), x)) := ⟨_, rfl⟩
            rw [← hX] at HOUT hxl
            have HXE := hide hX
            have HM1 : Hid ((X.length + [(((r : Int), y) : IP)].length) * 16 ≤ 140737488355328) := hide (by simp; omega)
            have HM2 : Hid (X.length + [(((r : Int), y) : IP)].length ≤ maxLen) := hide (by simp [maxLen]; omega)
            clear hok htk hgo hy hX hxl hsl
            go_wp2_with fail
            with_reducible refine (between_to _ _ _ true _ HBT.out).mono ?_
            rintro e w' ⟨rfl, rfl⟩
            go_wp2_with (at_builtin; (with_reducible refine list_app (B := w1.heap.size) (l := X) (m := [(((r : Int), y) : IP)]) row_stop (.slice A5 N5 c5) ?_ (.tmp 35) (.tmp 39) ?_ ?_ ?_ ?_ HM1.out HM2.out ?_ ?_); (with_reducible rfl); (with_reducible rfl); rfl; (exact HOUT.out.alloc _); (show RD _ _ (.slice (some ⟨_, 0, none⟩) 1 1) _; (focus ((repeat (first | (with_reducible assumption) | exact RD.new1 _ rfl | (refine RD.new1e _ ?_ rfl; simp; done) | (with_reducible apply RD.alloc) | (with_reducible apply RD.drew) | (with_reducible apply RD.drewN) | ((with_reducible apply RD.belowR); (with_reducible assumption)))); done))); (have := HK2.out.size; simp; omega); intro v3 w3 ho3 hg3 hat3)
            go_roundw
            case rel => exact ⟨k + 1, by omega, by go_num, by rw [HTK.out, List.map_append, ← List.append_assoc, ← HXE.out]; exact ho3, by rw [HTK.out, lastOr_snoc], Kp.app hg3 HK2.out.alloc HHI.out⟩
            case measure => simp [intOf] <;> omega
          · rw [if_neg (fun h => hgo (hok.2 h)), List.append_nil] at htk
            have HTK := hide htk
            have HBT := hide ((btw_f_iff y (la2 + 1) (key - 1)).2 hgo)
            clear hok htk hgo hy hsl
            go_wp2_with (go_at_call 16; ((with_reducible refine (between_to _ _ _ false _ HBT.out).mono ?_); rintro e w' ⟨rfl, rfl⟩))
            go_roundw
            case rel => exact ⟨k + 1, by omega, by go_num, by rw [HTK.out]; exact HOUT.out, by rw [HTK.out, ← HLA2.out], HK2.out⟩
            case measure => simp [intOf] <;> omega
        · have htk : l.take k = l := List.take_of_length_le (by omega)
          rw [htk] at HOUT HLA2
          have s5 : IntKind.i64.wrap ((r : Int) - 1) = (r : Int) - 1 := IntWalk.i64_in _ (by omega)
          clear hsl htk
          go_wp2
          go_roundw
          case rel => exact ⟨r, by have := HJ.out; omega, rfl, by rw [HNXT.out]; exact HOUT.out, by rw [HNXT.out, ← HLA2.out], HK2.out⟩
          case measure => simp [intOf] <;> omega
end Go.Proofs.YtfojphaemfbfnaaDoor
