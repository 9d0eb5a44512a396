/-
  heap.above, heap.built: what they answer. Conditions: the list reads as l (RD), of at most 1000 pairs.
-/
import Derived.Test.YthbapflabjogkaaHeapOneM3
import Derived.Test.YthbapflabjogkaaHeapOneM7

namespace Go.Proofs.Ythbapflabjogkaa
open Go.ChangeShapes Go.WideShapes Go.ChangeAt Go.RowKit
set_option linter.unusedVariables false
set_option linter.unusedSimpArgs false

theorem above_to (a1 a2 b1 b2 : Int) (r : Bool) (w : World) (h : decide (b2 ≤ a2) = r) :
    Calls Try.prog 38 #[.agg #[.int .i64 a1, .int .i64 a2], .agg #[.int .i64 b1, .int .i64 b2]] w (Ret (.bool r) w) := by
  subst h
  go_enter Try.func38, Try.ntmps38
  go_wp2
  go_ret
  exact ⟨rfl, (by repeat' (first | exact Below.refl _ _ | (with_reducible assumption) | apply Below.drew | apply below_drewN | apply Below.alloc | apply Below.setCell)
                  all_goals (first | omega | (simp; omega) | (simp; done)))⟩

def popL (l : List IP) (x : Int) : List Nat → Int → List Nat × Int
  | [], last => ([], last)
  | t :: es, last => if gv l t < x then popL l x es t else (t :: es, last)
def hd (st : List Nat) : Int := match st with | [] => -1 | t :: _ => (t : Int)
def upTo (up : List Int) (k : Nat) (r : List Nat × Int) : List Int :=
  if 0 ≤ r.2 then (up.set k (hd r.1)).set r.2.toNat k else up.set k (hd r.1)
def bStep (l : List IP) (s : List Nat × List Int) (k : Nat) : List Nat × List Int :=
  let r := popL l (gv l k) s.1 (-1)
  (k :: r.1, upTo s.2 k r)
def bRun (l : List IP) : Nat → List Nat × List Int
  | 0 => ([], List.replicate l.length 0)
  | k + 1 => bStep l (bRun l k) k
def builtL (l : List IP) : List Int := (bRun l l.length).2
def rev (st : List Nat) : List Int := st.reverse.map (fun t : Nat => (t : Int))
theorem rev_cons (t : Nat) (st : List Nat) : rev (t :: st) = rev st ++ [(t : Int)] := by simp [rev]
theorem rev_len (st : List Nat) : (rev st).length = st.length := by simp [rev]
theorem upTo_len (up : List Int) (k : Nat) (r : List Nat × Int) : (upTo up k r).length = up.length := by unfold upTo; split <;> simp
theorem bRun_len (l : List IP) : ∀ k, (bRun l k).2.length = l.length
  | 0 => by simp [bRun]
  | k + 1 => by show (upTo _ _ _).length = _; rw [upTo_len, bRun_len l k]
theorem popL_lt (l : List IP) (x : Int) (k : Nat) : ∀ (st : List Nat) (last : Int), (∀ t ∈ st, t < k) → last < k → (∀ t ∈ (popL l x st last).1, t < k) ∧ (popL l x st last).2 < k
  | [], last, h, hl => ⟨by simp [popL], by simpa [popL] using hl⟩
  | t :: es, last, h, hl => by
    unfold popL
    split
    · exact popL_lt l x k es t (fun u hu => h u (by simp [hu])) (by have := h t (by simp); omega)
    · exact ⟨h, hl⟩
theorem bRun_lt (l : List IP) : ∀ k, ∀ t ∈ (bRun l k).1, t < k
  | 0 => by simp [bRun]
  | k + 1 => by
    intro t ht
    have h := popL_lt l (gv l k) k (bRun l k).1 (-1) (bRun_lt l k) (by omega)
    have ht' : t ∈ k :: (popL l (gv l k) (bRun l k).1 (-1)).1 := ht
    rcases List.mem_cons.1 ht' with rfl | ht'
    · omega
    · have := h.1 t ht'; omega

theorem popL_len (l : List IP) (x : Int) : ∀ (st : List Nat) (last : Int), (popL l x st last).1.length ≤ st.length
  | [], _ => by simp [popL]
  | t :: es, last => by
    unfold popL
    split
    · have := popL_len l x es t; simp; omega
    · simp
theorem bRun_st (l : List IP) : ∀ k, (bRun l k).1.length ≤ k
  | 0 => by simp [bRun]
  | k + 1 => by
    have h := popL_len l (gv l k) (bRun l k).1 (-1)
    have h2 := bRun_st l k
    show (k :: (popL l (gv l k) (bRun l k).1 (-1)).1).length ≤ k + 1
    simp; omega

def BRel (l : List IP) (w : World) (g : Nat) (ev i : Value) (wr : World) : Prop :=
  ∃ k : Nat, k ≤ l.length ∧ i = .int .i64 k ∧ OW wr w.heap.size 3 eInt ev (rev (bRun l k).1) ∧ AR wr g 3 eInt (bRun l k).2 ∧ ev.ownBlock ≠ some g ∧ Kp w wr
def IRel (l : List IP) (w wp : World) (k : Nat) (ev lv : Value) (wi : World) : Prop :=
  ∃ (st : List Nat) (last : Int), lv = .int .i64 last ∧ OW wi w.heap.size 3 eInt ev (rev st) ∧ popL l (gv l k) st last = popL l (gv l k) (bRun l k).1 (-1) ∧ -1 ≤ last ∧ last < k ∧ st.length ≤ k ∧ (∀ t ∈ st, t < k) ∧ ev.ownBlock ≠ some w.heap.size ∧ Kp wp wi

theorem BRel.on {l : List IP} {w : World} {g k : Nat} {st : List Nat} {last : Int} {v3 : Value} {w3 : World} (hkl : k < l.length) (hpop : popL l (gv l k) (bRun l k).1 (-1) = (st, last))
    (ho : OW w3 w.heap.size 3 eInt v3 (rev st ++ [(k : Int)])) (ha : AR w3 g 3 eInt (upTo (bRun l k).2 k (st, last))) (hn : v3.ownBlock ≠ some g) (hk : Kp w w3) : BRel l w g v3 (.int .i64 ((k + 1 : Nat) : Int)) w3 := by
  have e : bRun l (k + 1) = (k :: st, upTo (bRun l k).2 k (st, last)) := by
    show bStep l (bRun l k) k = _
    simp only [bStep, hpop]
  exact ⟨k + 1, hkl, rfl, by rw [e, rev_cons]; exact ho, by rw [e]; exact ha, hn, hk⟩
theorem upTo_neg (up : List Int) (k : Nat) (st : List Nat) : upTo up k (st, -1) = up.set k (hd st) := by unfold upTo; rw [if_neg (by omega)]
theorem upTo_pos (up : List Int) (k : Nat) (st : List Nat) (last : Int) (h : 0 ≤ last) : upTo up k (st, last) = (up.set k (hd st)).set last.toNat k := by unfold upTo; rw [if_pos h]
theorem own_ne {v v3 : Value} {g H : Nat} (h : v3.ownBlock = v.ownBlock ∨ v3.ownBlock = some H) (hn : v.ownBlock ≠ some g) (hH : g ≠ H) : v3.ownBlock ≠ some g := by
  rcases h with h | h
  · rw [h]; exact hn
  · rw [h]; intro e; injection e with e; exact hH e.symm

set_option maxRecDepth 100000 in
set_option maxHeartbeats 1000000 in
theorem built_any (l : List IP) (v : Value) (w : World) (hr : RD w ePair v l) (hn : l.length ≤ 1000) : Calls Try.prog 26 #[v] w (RetAR 3 eInt (builtL l) w) := by
  obtain ⟨A, c, rfl, hc, hm⟩ := hr.shape
  obtain ⟨C, hC, hmk⟩ := run_mk row_int 0 zero_int l.length (by omega) (by simp [maxLen]; omega)
  have HR := hide hr
  clear hr
  go_enter Try.func26, Try.ntmps26
  go_wp2
  go_loopw [4, 13] (BRel l w w.heap.size) (fun _ i _ => l.length - (intOf i).toNat)
  case atStart => exact ⟨0, by omega, rfl, OW.nil, AR.made hC, by simp [Value.ownBlock], (Kp.refl w).alloc⟩
  case round =>
    obtain ⟨k, hk, rfl, ho, ha, hne, hkp⟩ := hrel
    have HO := hide ho
    have HA := hide ha
    have HN := hide hne
    clear ho ha hne
    obtain ⟨A4, c4, rfl, hc4, hm4⟩ := HO.out.rd.shape
    by_cases hlt : k < l.length
    · obtain ⟨b, o, rfl, hb, c0, c1⟩ := (HR.out.kp hkp).pair hlt
      obtain ⟨wo, rfl⟩ : ∃ wo : World, wo = wr := ⟨_, rfl⟩
      go_wp2
      go_loopw [4, 7] (IRel l w (wo.alloc (.cells #[.int .i64 l[k].1, .int .i64 l[k].2] 37)) k) (fun ev _ _ => sliceLen ev)
      case atStart => exact ⟨(bRun l k).1, -1, rfl, HO.out.alloc _, rfl, by omega, by omega, bRun_st l k, bRun_lt l k, HN.out, Kp.refl _⟩
      case round =>
        obtain ⟨st, last, rfl, ho2, hpop, h1, h2, hsl, hst, hne2, hkp2⟩ := hrel
        have HK : Kp w wr := (hkp.alloc).trans hkp2
        have HAi := hide (HA.out.kp ((Kp.refl wo).alloc.trans hkp2))
        have hgw : w.heap.size < wr.heap.size := HAi.out.lt
        have HU := hide (bRun_len l k)
        obtain ⟨uk, cu⟩ : ∃ uk, wr.cell? ⟨w.heap.size, k, none⟩ = some (.int .i64 uk) := ⟨_, HAi.out.int (by rw [HU.out]; exact hlt)⟩
        have cf : wr.frozen? ⟨w.heap.size, k, none⟩ = false := HAi.out.frozen k
        have hlast : 0 ≤ last → ∃ ul, wr.cell? ⟨w.heap.size, last.toNat, none⟩ = some (.int .i64 ul) := fun h => ⟨_, HAi.out.int (by rw [HU.out]; omega)⟩
        have cfl : wr.frozen? ⟨w.heap.size, last.toNat, none⟩ = false := HAi.out.frozen _
        have HP := hide hpop
        have HS := hide hst
        have HL := hide hlast
        clear hpop hst hlast
        obtain ⟨A5, c5, hv, hc5, hm5⟩ := ho2.rd.shape
        rw [rev_len] at hv hc5
        subst hv
        have hi2 := ho2.hi
        cases st with
        | nil =>
          simp only [List.length_nil] at ho2 hne2 hc5 hi2
          have HP' : Hid (popL l (gv l k) (bRun l k).1 (-1) = ([], last)) := hide HP.out.symm
          have HM1 : Hid (((rev []).length + [(k : Int)].length) * 8 ≤ 140737488355328) := hide (by simp [rev])
          have HM2 : Hid ((rev []).length + [(k : Int)].length ≤ maxLen) := hide (by simp [rev, maxLen])
          by_cases hneg : last = -1
          · subst hneg
            clear cfl
            go_wp2_with fail
            go_quiet (fail)
            go_wp2_with (at_builtin; (with_reducible refine list_app (B := w.heap.size) (l := rev []) (m := [(k : Int)]) row_int (.slice A5 0 c5) ?_ (.tmp 67) (.tmp 69) ?_ ?_ ?_ ?_ HM1.out HM2.out ?_ ?_); (with_reducible rfl); (with_reducible rfl); rfl; (focus ((repeat (first | (with_reducible assumption) | (with_reducible apply OW.alloc) | (with_reducible apply OW.drew) | (with_reducible apply OW.drewN) | ((with_reducible apply OW.setCellR); (with_reducible assumption)) | ((with_reducible apply OW.belowR); (with_reducible assumption)) | ((with_reducible apply OW.keptR); (with_reducible assumption); (with_reducible assumption)))); done)); (show RD _ _ (.slice (some ⟨_, 0, none⟩) 1 1) _; (focus ((repeat (first | (with_reducible assumption) | exact RD.new1 _ rfl | (refine RD.new1e _ ?_ rfl; simp; done) | (with_reducible apply RD.alloc) | (with_reducible apply RD.drew) | (with_reducible apply RD.drewN) | ((with_reducible apply RD.belowR); (with_reducible assumption)))); done))); (exact Kp.size (w := w) (by (focus ((repeat (first | (with_reducible assumption) | (with_reducible exact Kp.refl _) | (with_reducible apply Kp.drew) | (with_reducible apply Kp.drewN) | ((with_reducible apply Kp.setR); (focus (first | (with_reducible assumption) | (simp; done) | (simp; omega)))) | (with_reducible apply Kp.alloc) | ((with_reducible apply Kp.call); (with_reducible assumption)) | ((with_reducible apply Kp.app); (with_reducible assumption)))); done)))); intro v3 w3 ho3 hg3 hat3)
            go_roundw
            case rel => exact BRel.on hlt HP'.out ho3 (by rw [upTo_neg]; exact AR.grown hg3 hne2 (HAi.out.drewN.set (-1)).alloc) (own_ne hat3 hne2 (by simp; omega)) (by (focus ((repeat (first | (with_reducible assumption) | (with_reducible exact Kp.refl _) | (with_reducible apply Kp.drew) | (with_reducible apply Kp.drewN) | ((with_reducible apply Kp.setR); (focus (first | (with_reducible assumption) | (simp; done) | (simp; omega)))) | (with_reducible apply Kp.alloc) | ((with_reducible apply Kp.call); (with_reducible assumption)) | ((with_reducible apply Kp.app); (with_reducible assumption)))); done)))
            case measure => simp [intOf]; omega
          · obtain ⟨j, rfl⟩ : ∃ j : Nat, last = j := ⟨last.toNat, by omega⟩
            obtain ⟨ul, cl⟩ := HL.out (by omega)
            rw [Int.toNat_natCast] at cl cfl
            have hjk : ¬ j = k := by omega
            have hjl : (j : Int) < (l.length : Int) := by omega
            clear hneg
            go_wp2_with fail
            go_quiet (fail)
            go_wp2_with (at_builtin; (with_reducible refine list_app (B := w.heap.size) (l := rev []) (m := [(k : Int)]) row_int (.slice A5 0 c5) ?_ (.tmp 67) (.tmp 69) ?_ ?_ ?_ ?_ HM1.out HM2.out ?_ ?_); (with_reducible rfl); (with_reducible rfl); rfl; (focus ((repeat (first | (with_reducible assumption) | (with_reducible apply OW.alloc) | (with_reducible apply OW.drew) | (with_reducible apply OW.drewN) | ((with_reducible apply OW.setCellR); (with_reducible assumption)) | ((with_reducible apply OW.belowR); (with_reducible assumption)) | ((with_reducible apply OW.keptR); (with_reducible assumption); (with_reducible assumption)))); done)); (show RD _ _ (.slice (some ⟨_, 0, none⟩) 1 1) _; (focus ((repeat (first | (with_reducible assumption) | exact RD.new1 _ rfl | (refine RD.new1e _ ?_ rfl; simp; done) | (with_reducible apply RD.alloc) | (with_reducible apply RD.drew) | (with_reducible apply RD.drewN) | ((with_reducible apply RD.belowR); (with_reducible assumption)))); done))); (exact Kp.size (w := w) (by (focus ((repeat (first | (with_reducible assumption) | (with_reducible exact Kp.refl _) | (with_reducible apply Kp.drew) | (with_reducible apply Kp.drewN) | ((with_reducible apply Kp.setR); (focus (first | (with_reducible assumption) | (simp; done) | (simp; omega)))) | (with_reducible apply Kp.alloc) | ((with_reducible apply Kp.call); (with_reducible assumption)) | ((with_reducible apply Kp.app); (with_reducible assumption)))); done)))); intro v3 w3 ho3 hg3 hat3)
            go_roundw
            case rel => exact BRel.on hlt HP'.out ho3 (by rw [upTo_pos _ _ _ _ (by omega), Int.toNat_natCast]; exact AR.grown hg3 hne2 ((HAi.out.drewN.set (-1)).set _).alloc) (own_ne hat3 hne2 (by simp; omega)) (by (focus ((repeat (first | (with_reducible assumption) | (with_reducible exact Kp.refl _) | (with_reducible apply Kp.drew) | (with_reducible apply Kp.drewN) | ((with_reducible apply Kp.setR); (focus (first | (with_reducible assumption) | (simp; done) | (simp; omega)))) | (with_reducible apply Kp.alloc) | ((with_reducible apply Kp.call); (with_reducible assumption)) | ((with_reducible apply Kp.app); (with_reducible assumption)))); done)))
            case measure => simp [intOf]; omega
        | cons t es =>
          simp only [List.length_cons] at ho2 hne2 hc5 hi2 hsl
          have hel : es.length ≤ 1000 := by omega
          obtain ⟨g5, c6, hv5, _, hg5, _⟩ := ho2.shape (by rw [rev_len]; simp)
          injection hv5 with e1 e2 e3
          subst e1
          clear e2 e3
          have htk : t < k := HS.out t (by simp)
          have htl : t < l.length := by omega
          obtain ⟨b', o', e1, _, q0, q1⟩ := (HR.out.kp HK).pair htl
          injection e1 with e1
          injection e1 with e2 e3
          subst e2 e3
          have ce : wr.cell? ⟨g5, es.length, none⟩ = some (.int .i64 (t : Int)) := by
            obtain ⟨b', o', e1, _, q⟩ := ho2.rd.int (k := es.length) (by rw [rev_len]; simp)
            injection e1 with e1
            injection e1 with e2 e3
            subst e2 e3
            rw [Nat.zero_add] at q
            rw [q]
            simp [rev_cons, List.getElem_append_right, rev_len]
          have p0 : wr.cell? ⟨wo.heap.size, 0, none⟩ = some (.int .i64 l[k].1) := hkp2.cell (cell_of_row _ _ 0 _ _ (0, 0) (heap_alloc_new wo _))
          have p1 : wr.cell? ⟨wo.heap.size, 1, none⟩ = some (.int .i64 l[k].2) := hkp2.cell (cell_of_row _ _ 1 _ _ (0, 0) (heap_alloc_new wo _))
          have hwe : IntKind.i64.wrap (es.length : Int) = (es.length : Int) := IntWalk.i64_in _ (by omega)
          have KS : Hid (∀ W', Kp wr W' → (W'.cell? ⟨g5, es.length, none⟩ = some (.int .i64 (t : Int)) ∧ W'.cell? ⟨b, o + t * 2, none⟩ = some (.int .i64 l[t].1) ∧ W'.cell? ⟨b, o + t * 2 + 1, none⟩ = some (.int .i64 l[t].2) ∧
                W'.cell? ⟨wo.heap.size, 0, none⟩ = some (.int .i64 l[k].1) ∧ W'.cell? ⟨wo.heap.size, 1, none⟩ = some (.int .i64 l[k].2) ∧ W'.cell? ⟨w.heap.size, k, none⟩ = some (.int .i64 uk) ∧ W'.frozen? ⟨w.heap.size, k, none⟩ = false ∧ Kp wr W')) :=
            hide fun W' h => ⟨h.cell ce, h.cell q0, h.cell q1, h.cell p0, h.cell p1, h.cell cu, (h.frozen (by simpa using hgw)).trans cf, h⟩
          have HM1 : Hid (((rev (t :: es)).length + [(k : Int)].length) * 8 ≤ 140737488355328) := hide (by rw [rev_len, List.length_cons, List.length_singleton]; omega)
          have HM2 : Hid ((rev (t :: es)).length + [(k : Int)].length ≤ maxLen) := hide (by rw [rev_len, List.length_cons, List.length_singleton]; unfold maxLen; omega)
          have HPD : Hid (∀ W, OW W w.heap.size 3 eInt (.slice (some ⟨g5, 0, none⟩) (es.length + 1) c5) (rev (t :: es)) → OW W w.heap.size 3 eInt (.slice (some ⟨g5, 0, none⟩) es.length c5) (rev es)) :=
            hide fun W h => by have h1 := OW.pop (l := rev es) (a := (t : Int)) (by rw [← rev_cons]; exact h); rwa [rev_len] at h1
          have hg5n : ¬ g5 = w.heap.size := fun h => hne2 (by rw [h]; rfl)
          have hg5m : ¬ w.heap.size = g5 := fun h => hg5n h.symm
          have hne3 : Hid ((Value.slice (some ⟨g5, 0, none⟩) es.length c5).ownBlock ≠ some w.heap.size) := hide hne2
          have K0 := Kp.refl wr
          have b9 : (0 : Int) ≤ (es.length : Int) := by omega
          have b10 : (es.length : Int) < (es.length : Int) + 1 := by omega
          have b11 : (es.length : Int) + 1 ≤ (c5 : Int) := by omega
          by_cases hlt2 : gv l t < gv l k
          · have hP2 : Hid (popL l (gv l k) es t = popL l (gv l k) (bRun l k).1 (-1)) := hide (by rw [← HP.out]; show _ = popL l (gv l k) (t :: es) last; rw [popL, if_pos hlt2])
            have hdec : decide (l[k].2 ≤ l[t].2) = false := by rw [gv_eq l t htl, gv_eq l k hlt] at hlt2; simp; omega
            clear hlt2
            go_wp2_with fail
            go_region_held3 (fun w' => w'.cell? ⟨g5, es.length, none⟩ = some (.int .i64 (t : Int)) ∧ w'.cell? ⟨b, o + t * 2, none⟩ = some (.int .i64 l[t].1) ∧ w'.cell? ⟨b, o + t * 2 + 1, none⟩ = some (.int .i64 l[t].2) ∧
                w'.cell? ⟨wo.heap.size, 0, none⟩ = some (.int .i64 l[k].1) ∧ w'.cell? ⟨wo.heap.size, 1, none⟩ = some (.int .i64 l[k].2) ∧ w'.cell? ⟨w.heap.size, k, none⟩ = some (.int .i64 uk) ∧ w'.frozen? ⟨w.heap.size, k, none⟩ = false ∧ Kp wr w')
              ((go_split_ands; refine KS.out _ ?_; (focus ((repeat (first | (with_reducible assumption) | (with_reducible exact Kp.refl _) | (with_reducible apply Kp.drew) | (with_reducible apply Kp.drewN) | ((with_reducible apply Kp.setR); (focus (first | (with_reducible assumption) | (simp; done) | (simp; omega)))) | (with_reducible apply Kp.alloc) | ((with_reducible apply Kp.call); (with_reducible assumption)) | ((with_reducible apply Kp.app); (with_reducible assumption)))); done))))
              (first
                | (go_at_call 38; refine (above_to _ _ _ _ false _ hdec).mono ?_; rintro e w1 ⟨rfl, hb1⟩))
            go_split_ands
            go_wp2
            go_roundw
            case rel => exact ⟨es, t, rfl, HPD.out _ (by (focus ((repeat (first | (with_reducible assumption) | (with_reducible apply OW.alloc) | (with_reducible apply OW.drew) | (with_reducible apply OW.drewN) | ((with_reducible apply OW.setCellR); (with_reducible assumption)) | ((with_reducible apply OW.belowR); (with_reducible assumption)) | ((with_reducible apply OW.keptR); (with_reducible assumption); (with_reducible assumption)))); done))), hP2.out, by omega, by omega, by omega, fun u hu => HS.out u (by simp [hu]), hne3.out, hkp2.trans (by (focus ((repeat (first | (with_reducible assumption) | (with_reducible exact Kp.refl _) | (with_reducible apply Kp.drew) | (with_reducible apply Kp.drewN) | ((with_reducible apply Kp.setR); (focus (first | (with_reducible assumption) | (simp; done) | (simp; omega)))) | (with_reducible apply Kp.alloc) | ((with_reducible apply Kp.call); (with_reducible assumption)) | ((with_reducible apply Kp.app); (with_reducible assumption)))); done)))⟩
            case measure => simp [sliceLen]
          · have hdec : decide (l[k].2 ≤ l[t].2) = true := by rw [gv_eq l t htl, gv_eq l k hlt] at hlt2; simp; omega
            have HP' : Hid (popL l (gv l k) (bRun l k).1 (-1) = (t :: es, last)) := hide (by rw [← HP.out, popL, if_neg hlt2])
            clear hlt2
            by_cases hneg : last = -1
            · subst hneg
              clear cfl
              go_wp2_with fail
              go_region_held3 (fun w' => w'.cell? ⟨g5, es.length, none⟩ = some (.int .i64 (t : Int)) ∧ w'.cell? ⟨b, o + t * 2, none⟩ = some (.int .i64 l[t].1) ∧ w'.cell? ⟨b, o + t * 2 + 1, none⟩ = some (.int .i64 l[t].2) ∧
                  w'.cell? ⟨wo.heap.size, 0, none⟩ = some (.int .i64 l[k].1) ∧ w'.cell? ⟨wo.heap.size, 1, none⟩ = some (.int .i64 l[k].2) ∧ w'.cell? ⟨w.heap.size, k, none⟩ = some (.int .i64 uk) ∧ w'.frozen? ⟨w.heap.size, k, none⟩ = false ∧ Kp wr w')
                ((go_split_ands; refine KS.out _ ?_; (focus ((repeat (first | (with_reducible assumption) | (with_reducible exact Kp.refl _) | (with_reducible apply Kp.drew) | (with_reducible apply Kp.drewN) | ((with_reducible apply Kp.setR); (focus (first | (with_reducible assumption) | (simp; done) | (simp; omega)))) | (with_reducible apply Kp.alloc) | ((with_reducible apply Kp.call); (with_reducible assumption)) | ((with_reducible apply Kp.app); (with_reducible assumption)))); done))))
                (first
                  | (go_at_call 38; refine (above_to _ _ _ _ true _ hdec).mono ?_; rintro e w1 ⟨rfl, hb1⟩))
              go_split_ands
              have hk1 : Kp wr w1 := by (focus ((repeat (first | (with_reducible assumption) | (with_reducible exact Kp.refl _) | (with_reducible apply Kp.drew) | (with_reducible apply Kp.drewN) | ((with_reducible apply Kp.setR); (focus (first | (with_reducible assumption) | (simp; done) | (simp; omega)))) | (with_reducible apply Kp.alloc) | ((with_reducible apply Kp.call); (with_reducible assumption)) | ((with_reducible apply Kp.app); (with_reducible assumption)))); done))
              have hk2 : Kp w w1 := HK.trans hk1
              have hz1 := hk1.size
              go_wp2_with (at_builtin; (with_reducible refine list_app (B := w.heap.size) (l := rev (t :: es)) (m := [(k : Int)]) row_int (.slice (some ⟨g5, 0, none⟩) (es.length + 1) c5) ?_ (.tmp 67) (.tmp 69) ?_ ?_ ?_ ?_ HM1.out HM2.out ?_ ?_); (with_reducible rfl); (with_reducible rfl); rfl; (focus ((repeat (first | (with_reducible assumption) | (with_reducible apply OW.alloc) | (with_reducible apply OW.drew) | (with_reducible apply OW.drewN) | ((with_reducible apply OW.setCellR); (with_reducible assumption)) | ((with_reducible apply OW.belowR); (with_reducible assumption)) | ((with_reducible apply OW.keptR); (with_reducible assumption); (with_reducible assumption)))); done)); (show RD _ _ (.slice (some ⟨_, 0, none⟩) 1 1) _; (focus ((repeat (first | (with_reducible assumption) | exact RD.new1 _ rfl | (refine RD.new1e _ ?_ rfl; simp; done) | (with_reducible apply RD.alloc) | (with_reducible apply RD.drew) | (with_reducible apply RD.drewN) | ((with_reducible apply RD.belowR); (with_reducible assumption)))); done))); (exact Kp.size (w := w) (by (focus ((repeat (first | (with_reducible assumption) | (with_reducible exact Kp.refl _) | (with_reducible apply Kp.drew) | (with_reducible apply Kp.drewN) | ((with_reducible apply Kp.setR); (focus (first | (with_reducible assumption) | (simp; done) | (simp; omega)))) | (with_reducible apply Kp.alloc) | ((with_reducible apply Kp.call); (with_reducible assumption)) | ((with_reducible apply Kp.app); (with_reducible assumption)))); done)))); intro v3 w3 ho3 hg3 hat3)
              go_roundw
              case rel => exact BRel.on hlt HP'.out ho3 (by rw [upTo_neg]; have h := AR.grown hg3 hne2 (((HAi.out.kp hk1).set (-1)).set _).alloc; rwa [List.set_set] at h) (own_ne hat3 hne2 (by simp; omega)) (by (focus ((repeat (first | (with_reducible assumption) | (with_reducible exact Kp.refl _) | (with_reducible apply Kp.drew) | (with_reducible apply Kp.drewN) | ((with_reducible apply Kp.setR); (focus (first | (with_reducible assumption) | (simp; done) | (simp; omega)))) | (with_reducible apply Kp.alloc) | ((with_reducible apply Kp.call); (with_reducible assumption)) | ((with_reducible apply Kp.app); (with_reducible assumption)))); done)))
              case measure => simp [intOf]; omega
            · obtain ⟨j, rfl⟩ : ∃ j : Nat, last = j := ⟨last.toNat, by omega⟩
              obtain ⟨ul, cl⟩ := HL.out (by omega)
              rw [Int.toNat_natCast] at cl cfl
              have hjk : ¬ j = k := by omega
              have hjl : (j : Int) < (l.length : Int) := by omega
              clear hneg
              go_wp2_with fail
              go_region_held3 (fun w' => w'.cell? ⟨g5, es.length, none⟩ = some (.int .i64 (t : Int)) ∧ w'.cell? ⟨b, o + t * 2, none⟩ = some (.int .i64 l[t].1) ∧ w'.cell? ⟨b, o + t * 2 + 1, none⟩ = some (.int .i64 l[t].2) ∧
                  w'.cell? ⟨wo.heap.size, 0, none⟩ = some (.int .i64 l[k].1) ∧ w'.cell? ⟨wo.heap.size, 1, none⟩ = some (.int .i64 l[k].2) ∧ w'.cell? ⟨w.heap.size, k, none⟩ = some (.int .i64 uk) ∧ w'.frozen? ⟨w.heap.size, k, none⟩ = false ∧ Kp wr w')
                ((go_split_ands; refine KS.out _ ?_; (focus ((repeat (first | (with_reducible assumption) | (with_reducible exact Kp.refl _) | (with_reducible apply Kp.drew) | (with_reducible apply Kp.drewN) | ((with_reducible apply Kp.setR); (focus (first | (with_reducible assumption) | (simp; done) | (simp; omega)))) | (with_reducible apply Kp.alloc) | ((with_reducible apply Kp.call); (with_reducible assumption)) | ((with_reducible apply Kp.app); (with_reducible assumption)))); done))))
                (first
                  | (go_at_call 38; refine (above_to _ _ _ _ true _ hdec).mono ?_; rintro e w1 ⟨rfl, hb1⟩))
              go_split_ands
              have hk1 : Kp wr w1 := by (focus ((repeat (first | (with_reducible assumption) | (with_reducible exact Kp.refl _) | (with_reducible apply Kp.drew) | (with_reducible apply Kp.drewN) | ((with_reducible apply Kp.setR); (focus (first | (with_reducible assumption) | (simp; done) | (simp; omega)))) | (with_reducible apply Kp.alloc) | ((with_reducible apply Kp.call); (with_reducible assumption)) | ((with_reducible apply Kp.app); (with_reducible assumption)))); done))
              have hk2 : Kp w w1 := HK.trans hk1
              have hz1 := hk1.size
              have cl1 := hk1.cell cl
              have cfl1 := (hk1.frozen (by simpa using hgw)).trans cfl
              go_wp2_with (at_builtin; (with_reducible refine list_app (B := w.heap.size) (l := rev (t :: es)) (m := [(k : Int)]) row_int (.slice (some ⟨g5, 0, none⟩) (es.length + 1) c5) ?_ (.tmp 67) (.tmp 69) ?_ ?_ ?_ ?_ HM1.out HM2.out ?_ ?_); (with_reducible rfl); (with_reducible rfl); rfl; (focus ((repeat (first | (with_reducible assumption) | (with_reducible apply OW.alloc) | (with_reducible apply OW.drew) | (with_reducible apply OW.drewN) | ((with_reducible apply OW.setCellR); (with_reducible assumption)) | ((with_reducible apply OW.belowR); (with_reducible assumption)) | ((with_reducible apply OW.keptR); (with_reducible assumption); (with_reducible assumption)))); done)); (show RD _ _ (.slice (some ⟨_, 0, none⟩) 1 1) _; (focus ((repeat (first | (with_reducible assumption) | exact RD.new1 _ rfl | (refine RD.new1e _ ?_ rfl; simp; done) | (with_reducible apply RD.alloc) | (with_reducible apply RD.drew) | (with_reducible apply RD.drewN) | ((with_reducible apply RD.belowR); (with_reducible assumption)))); done))); (exact Kp.size (w := w) (by (focus ((repeat (first | (with_reducible assumption) | (with_reducible exact Kp.refl _) | (with_reducible apply Kp.drew) | (with_reducible apply Kp.drewN) | ((with_reducible apply Kp.setR); (focus (first | (with_reducible assumption) | (simp; done) | (simp; omega)))) | (with_reducible apply Kp.alloc) | ((with_reducible apply Kp.call); (with_reducible assumption)) | ((with_reducible apply Kp.app); (with_reducible assumption)))); done)))); intro v3 w3 ho3 hg3 hat3)
              go_roundw
              case rel => exact BRel.on hlt HP'.out ho3 (by rw [upTo_pos _ _ _ _ (by omega), Int.toNat_natCast]; have h := AR.grown hg3 hne2 ((((HAi.out.kp hk1).set (-1)).set _).set _).alloc; rwa [List.set_set] at h) (own_ne hat3 hne2 (by simp; omega)) (by (focus ((repeat (first | (with_reducible assumption) | (with_reducible exact Kp.refl _) | (with_reducible apply Kp.drew) | (with_reducible apply Kp.drewN) | ((with_reducible apply Kp.setR); (focus (first | (with_reducible assumption) | (simp; done) | (simp; omega)))) | (with_reducible apply Kp.alloc) | ((with_reducible apply Kp.call); (with_reducible assumption)) | ((with_reducible apply Kp.app); (with_reducible assumption)))); done)))
              case measure => simp [intOf]; omega
    · have hkl : k = l.length := by omega
      go_wp2
      go_ret
      subst hkl
      exact ⟨w.heap.size, by rw [show (builtL l).length = l.length from bRun_len l _]; rfl, Nat.le_refl _, HA.out, hkp.bel⟩
end Go.Proofs.Ythbapflabjogkaa
