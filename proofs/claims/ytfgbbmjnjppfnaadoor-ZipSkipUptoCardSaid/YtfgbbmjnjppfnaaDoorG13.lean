/-
  heap.above, heap.built: what they answer. Conditions: the list reads as l (RD), of at most 1000 pairs.
  heap.spots and its closure: what they answer. Conditions: each place has a depth (Dp); at most 1000 pairs.
  Trees of the references that are only read (TR); hedgref.Spots: what it answers. Conditions: the tree is of fewer than 2^30 nodes with the depth.
  hedgref.HeapTree: what it answers. Conditions: the list reads as l (RD), of fewer than 2^30 pairs.
-/
import Derived.Test.YtfgbbmjnjppfnaaDoorG1
import Derived.Test.YtfgbbmjnjppfnaaDoorG2
import Derived.Laws.EntriesVeiled

namespace Go.Proofs.YtfgbbmjnjppfnaaDoor
open Go.ChangeShapes Go.WideShapes Go.ChangeAt Go.RowKit
set_option linter.unusedVariables false
set_option linter.unusedSimpArgs false

theorem above_to (a1 a2 b1 b2 : Int) (r : Bool) (w : World) (h : decide (b2 ≤ a2) = r) :
    Calls Tryd.prog 72 #[.agg #[.int .i64 a1, .int .i64 a2], .agg #[.int .i64 b1, .int .i64 b2]] w (Ret (.bool r) w) := by
  subst h
  go_enter Tryd.func72, Tryd.ntmps72
  go_wp2
  go_ret
  exact ⟨rfl, (by repeat' (first | exact Below.refl _ _ | (with_reducible assumption) | apply Below.drew | apply below_drewN | apply Below.alloc | apply Below.setCell)
                  all_goals (first | omega | (simp; omega) | (simp; done)))⟩

def popL (l : List IP) (x : Int) : List Nat → Int → List Nat × Int
  | [], last => ([], last)
  | t :: es, last => if gv l t < x then popL l x es t else (t :: es, last)
def hd (st : List Nat) : Int := match st with | [] => -1 | t :: _ => (t : Int)
def upTo (up : List Int) (k : Nat) (r : List Nat × Int) : List Int :=
  if 0 ≤ r.2 then (up.set k (hd r.1)).set r.2.toNat k else up.set k (hd r.1)
def bStep (l : List IP) (s : List Nat × List Int) (k : Nat) : List Nat × List Int :=
  let r := popL l (gv l k) s.1 (-1)
  (k :: r.1, upTo s.2 k r)
def bRun (l : List IP) : Nat → List Nat × List Int
  | 0 => ([], List.replicate l.length 0)
  | k + 1 => bStep l (bRun l k) k
def builtL (l : List IP) : List Int := (bRun l l.length).2
def rev (st : List Nat) : List Int := st.reverse.map (fun t : Nat => (t : Int))
theorem rev_cons (t : Nat) (st : List Nat) : rev (t :: st) = rev st ++ [(t : Int)] := by simp [rev]
theorem rev_len (st : List Nat) : (rev st).length = st.length := by simp [rev]
theorem upTo_len (up : List Int) (k : Nat) (r : List Nat × Int) : (upTo up k r).length = up.length := by unfold upTo; split <;> simp
theorem bRun_len (l : List IP) : ∀ k, (bRun l k).2.length = l.length
  | 0 => by simp [bRun]
  | k + 1 => by show (upTo _ _ _).length = _; rw [upTo_len, bRun_len l k]
theorem popL_lt (l : List IP) (x : Int) (k : Nat) : ∀ (st : List Nat) (last : Int), (∀ t ∈ st, t < k) → last < k → (∀ t ∈ (popL l x st last).1, t < k) ∧ (popL l x st last).2 < k
  | [], last, h, hl => ⟨by simp [popL], by simpa [popL] using hl⟩
  | t :: es, last, h, hl => by
    unfold popL
    split
    · exact popL_lt l x k es t (fun u hu => h u (by simp [hu])) (by have := h t (by simp); omega)
    · exact ⟨h, hl⟩
theorem bRun_lt (l : List IP) : ∀ k, ∀ t ∈ (bRun l k).1, t < k
  | 0 => by simp [bRun]
  | k + 1 => by
    intro t ht
    have h := popL_lt l (gv l k) k (bRun l k).1 (-1) (bRun_lt l k) (by omega)
    have ht' : t ∈ k :: (popL l (gv l k) (bRun l k).1 (-1)).1 := ht
    rcases List.mem_cons.1 ht' with rfl | ht'
    · omega
    · have := h.1 t ht'; omega

theorem popL_len (l : List IP) (x : Int) : ∀ (st : List Nat) (last : Int), (popL l x st last).1.length ≤ st.length
  | [], _ => by simp [popL]
  | t :: es, last => by
    unfold popL
    split
    · have := popL_len l x es t; simp; omega
    · simp
theorem bRun_st (l : List IP) : ∀ k, (bRun l k).1.length ≤ k
  | 0 => by simp [bRun]
  | k + 1 => by
    have h := popL_len l (gv l k) (bRun l k).1 (-1)
    have h2 := bRun_st l k
    show (k :: (popL l (gv l k) (bRun l k).1 (-1)).1).length ≤ k + 1
    simp; omega

def BRel (l : List IP) (w : World) (g : Nat) (ev i : Value) (wr : World) : Prop :=
  ∃ k : Nat, k ≤ l.length ∧ i = .int .i64 k ∧ OW wr w.heap.size 3 eInt ev (rev (bRun l k).1) ∧ AR wr g 3 eInt (bRun l k).2 ∧ ev.ownBlock ≠ some g ∧ Kp w wr
def IRel (l : List IP) (w wp : World) (k : Nat) (ev lv : Value) (wi : World) : Prop :=
  ∃ (st : List Nat) (last : Int), lv = .int .i64 last ∧ OW wi w.heap.size 3 eInt ev (rev st) ∧ popL l (gv l k) st last = popL l (gv l k) (bRun l k).1 (-1) ∧ -1 ≤ last ∧ last < k ∧ st.length ≤ k ∧ (∀ t ∈ st, t < k) ∧ ev.ownBlock ≠ some w.heap.size ∧ Kp wp wi

theorem BRel.on {l : List IP} {w : World} {g k : Nat} {st : List Nat} {last : Int} {v3 : Value} {w3 : World} (hkl : k < l.length) (hpop : popL l (gv l k) (bRun l k).1 (-1) = (st, last))
    (ho : OW w3 w.heap.size 3 eInt v3 (rev st ++ [(k : Int)])) (ha : AR w3 g 3 eInt (upTo (bRun l k).2 k (st, last))) (hn : v3.ownBlock ≠ some g) (hk : Kp w w3) : BRel l w g v3 (.int .i64 ((k + 1 : Nat) : Int)) w3 := by
  have e : bRun l (k + 1) = (k :: st, upTo (bRun l k).2 k (st, last)) := by
    show bStep l (bRun l k) k = _
    simp only [bStep, hpop]
  exact ⟨k + 1, hkl, rfl, by rw [e, rev_cons]; exact ho, by rw [e]; exact ha, hn, hk⟩
theorem upTo_neg (up : List Int) (k : Nat) (st : List Nat) : upTo up k (st, -1) = up.set k (hd st) := by unfold upTo; rw [if_neg (by omega)]
theorem upTo_pos (up : List Int) (k : Nat) (st : List Nat) (last : Int) (h : 0 ≤ last) : upTo up k (st, last) = (up.set k (hd st)).set last.toNat k := by unfold upTo; rw [if_pos h]
theorem own_ne {v v3 : Value} {g H : Nat} (h : v3.ownBlock = v.ownBlock ∨ v3.ownBlock = some H) (hn : v.ownBlock ≠ some g) (hH : g ≠ H) : v3.ownBlock ≠ some g := by
  rcases h with h | h
  · rw [h]; exact hn
  · rw [h]; intro e; injection e with e; exact hH e.symm

set_option maxRecDepth 100000 in
set_option maxHeartbeats 1000000 in
theorem built_any (l : List IP) (v : Value) (w : World) (hr : RD w ePair v l) (hn : l.length ≤ 1000) : Calls Tryd.prog 52 #[v] w (RetAR 3 eInt (builtL l) w) := by
  obtain ⟨A, c, rfl, hc, hm⟩ := hr.shape
  obtain ⟨C, hC, hmk⟩ := run_mk row_int 0 zero_int l.length (by omega) (by simp [maxLen]; omega)
  have HR := hide hr
  clear hr
  go_enter Tryd.func52, Tryd.ntmps52
  go_wp2
  go_loopw [4, 13] (BRel l w w.heap.size) (fun _ i _ => l.length - (intOf i).toNat)
  case atStart => exact ⟨0, by omega, rfl, OW.nil, AR.made hC, by simp [Value.ownBlock], (Kp.refl w).alloc⟩
  case round =>
    obtain ⟨k, hk, rfl, ho, ha, hne, hkp⟩ := hrel
    have HO := hide ho
    have HA := hide ha
    have HN := hide hne
    clear ho ha hne
    obtain ⟨A4, c4, rfl, hc4, hm4⟩ := HO.out.rd.shape
    by_cases hlt : k < l.length
    · obtain ⟨b, o, rfl, hb, c0, c1⟩ := (HR.out.kp hkp).pair hlt
      obtain ⟨wo, rfl⟩ : ∃ wo : World, wo = wr := ⟨_, rfl⟩
      go_wp2
      go_loopw [4, 7] (IRel l w (wo.alloc (.cells #[.int .i64 l[k].1, .int .i64 l[k].2] 62)) k) (fun ev _ _ => sliceLen ev)
      case atStart => exact ⟨(bRun l k).1, -1, rfl, HO.out.alloc _, rfl, by omega, by omega, bRun_st l k, bRun_lt l k, HN.out, Kp.refl _⟩
      case round =>
        obtain ⟨st, last, rfl, ho2, hpop, h1, h2, hsl, hst, hne2, hkp2⟩ := hrel
        have HK : Kp w wr := (hkp.alloc).trans hkp2
        have HAi := hide (HA.out.kp ((Kp.refl wo).alloc.trans hkp2))
        have hgw : w.heap.size < wr.heap.size := HAi.out.lt
        have HU := hide (bRun_len l k)
        obtain ⟨uk, cu⟩ : ∃ uk, wr.cell? ⟨w.heap.size, k, none⟩ = some (.int .i64 uk) := ⟨_, HAi.out.int (by rw [HU.out]; exact hlt)⟩
        have cf : wr.frozen? ⟨w.heap.size, k, none⟩ = false := HAi.out.frozen k
        have hlast : 0 ≤ last → ∃ ul, wr.cell? ⟨w.heap.size, last.toNat, none⟩ = some (.int .i64 ul) := fun h => ⟨_, HAi.out.int (by rw [HU.out]; omega)⟩
        have cfl : wr.frozen? ⟨w.heap.size, last.toNat, none⟩ = false := HAi.out.frozen _
        have HP := hide hpop
        have HS := hide hst
        have HL := hide hlast
        clear hpop hst hlast
        obtain ⟨A5, c5, hv, hc5, hm5⟩ := ho2.rd.shape
        rw [rev_len] at hv hc5
        subst hv
        have hi2 := ho2.hi
        cases st with
        | nil =>
          simp only [List.length_nil] at ho2 hne2 hc5 hi2
          have HP' : Hid (popL l (gv l k) (bRun l k).1 (-1) = ([], last)) := hide HP.out.symm
          have HM1 : Hid (((rev []).length + [(k : Int)].length) * 8 ≤ 140737488355328) := hide (by simp [rev])
          have HM2 : Hid ((rev []).length + [(k : Int)].length ≤ maxLen) := hide (by simp [rev, maxLen])
          by_cases hneg : last = -1
          · subst hneg
            clear cfl
            go_wp2_with fail
            go_quiet (fail)
            go_wp2_with (at_builtin; (with_reducible refine list_app (B := w.heap.size) (l := rev []) (m := [(k : Int)]) row_int (.slice A5 0 c5) ?_ (.tmp 67) (.tmp 69) ?_ ?_ ?_ ?_ HM1.out HM2.out ?_ ?_); (with_reducible rfl); (with_reducible rfl); rfl; (focus ((repeat (first | (with_reducible assumption) | (with_reducible apply OW.alloc) | (with_reducible apply OW.drew) | (with_reducible apply OW.drewN) | ((with_reducible apply OW.setCellR); (with_reducible assumption)) | ((with_reducible apply OW.belowR); (with_reducible assumption)) | ((with_reducible apply OW.keptR); (with_reducible assumption); (with_reducible assumption)))); done)); (show RD _ _ (.slice (some ⟨_, 0, none⟩) 1 1) _; (focus ((repeat (first | (with_reducible assumption) | exact RD.new1 _ rfl | (refine RD.new1e _ ?_ rfl; simp; done) | (with_reducible apply RD.alloc) | (with_reducible apply RD.drew) | (with_reducible apply RD.drewN) | ((with_reducible apply RD.belowR); (with_reducible assumption)))); done))); (exact Kp.size (w := w) (by (focus ((repeat (first | (with_reducible assumption) | (with_reducible exact Kp.refl _) | (with_reducible apply Kp.drew) | (with_reducible apply Kp.drewN) | ((with_reducible apply Kp.setR); (focus (first | (with_reducible assumption) | (simp; done) | (simp; omega)))) | (with_reducible apply Kp.alloc) | ((with_reducible apply Kp.call); (with_reducible assumption)) | ((with_reducible apply Kp.app); (with_reducible assumption)))); done)))); intro v3 w3 ho3 hg3 hat3)
            go_roundw
            case rel => exact BRel.on hlt HP'.out ho3 (by rw [upTo_neg]; exact AR.grown hg3 hne2 (HAi.out.drewN.set (-1)).alloc) (own_ne hat3 hne2 (by simp; omega)) (by (focus ((repeat (first | (with_reducible assumption) | (with_reducible exact Kp.refl _) | (with_reducible apply Kp.drew) | (with_reducible apply Kp.drewN) | ((with_reducible apply Kp.setR); (focus (first | (with_reducible assumption) | (simp; done) | (simp; omega)))) | (with_reducible apply Kp.alloc) | ((with_reducible apply Kp.call); (with_reducible assumption)) | ((with_reducible apply Kp.app); (with_reducible assumption)))); done)))
            case measure => simp [intOf]; omega
          · obtain ⟨j, rfl⟩ : ∃ j : Nat, last = j := ⟨last.toNat, by omega⟩
            obtain ⟨ul, cl⟩ := HL.out (by omega)
            rw [Int.toNat_natCast] at cl cfl
            have hjk : ¬ j = k := by omega
            have hjl : (j : Int) < (l.length : Int) := by omega
            clear hneg
            go_wp2_with fail
            go_quiet (fail)
            go_wp2_with (at_builtin; (with_reducible refine list_app (B := w.heap.size) (l := rev []) (m := [(k : Int)]) row_int (.slice A5 0 c5) ?_ (.tmp 67) (.tmp 69) ?_ ?_ ?_ ?_ HM1.out HM2.out ?_ ?_); (with_reducible rfl); (with_reducible rfl); rfl; (focus ((repeat (first | (with_reducible assumption) | (with_reducible apply OW.alloc) | (with_reducible apply OW.drew) | (with_reducible apply OW.drewN) | ((with_reducible apply OW.setCellR); (with_reducible assumption)) | ((with_reducible apply OW.belowR); (with_reducible assumption)) | ((with_reducible apply OW.keptR); (with_reducible assumption); (with_reducible assumption)))); done)); (show RD _ _ (.slice (some ⟨_, 0, none⟩) 1 1) _; (focus ((repeat (first | (with_reducible assumption) | exact RD.new1 _ rfl | (refine RD.new1e _ ?_ rfl; simp; done) | (with_reducible apply RD.alloc) | (with_reducible apply RD.drew) | (with_reducible apply RD.drewN) | ((with_reducible apply RD.belowR); (with_reducible assumption)))); done))); (exact Kp.size (w := w) (by (focus ((repeat (first | (with_reducible assumption) | (with_reducible exact Kp.refl _) | (with_reducible apply Kp.drew) | (with_reducible apply Kp.drewN) | ((with_reducible apply Kp.setR); (focus (first | (with_reducible assumption) | (simp; done) | (simp; omega)))) | (with_reducible apply Kp.alloc) | ((with_reducible apply Kp.call); (with_reducible assumption)) | ((with_reducible apply Kp.app); (with_reducible assumption)))); done)))); intro v3 w3 ho3 hg3 hat3)
            go_roundw
            case rel => exact BRel.on hlt HP'.out ho3 (by rw [upTo_pos _ _ _ _ (by omega), Int.toNat_natCast]; exact AR.grown hg3 hne2 ((HAi.out.drewN.set (-1)).set _).alloc) (own_ne hat3 hne2 (by simp; omega)) (by (focus ((repeat (first | (with_reducible assumption) | (with_reducible exact Kp.refl _) | (with_reducible apply Kp.drew) | (with_reducible apply Kp.drewN) | ((with_reducible apply Kp.setR); (focus (first | (with_reducible assumption) | (simp; done) | (simp; omega)))) | (with_reducible apply Kp.alloc) | ((with_reducible apply Kp.call); (with_reducible assumption)) | ((with_reducible apply Kp.app); (with_reducible assumption)))); done)))
            case measure => simp [intOf]; omega
        | cons t es =>
          simp only [List.length_cons] at ho2 hne2 hc5 hi2 hsl
          have hel : es.length ≤ 1000 := by omega
          obtain ⟨g5, c6, hv5, _, hg5, _⟩ := ho2.shape (by rw [rev_len]; simp)
          injection hv5 with e1 e2 e3
          subst e1
          clear e2 e3
          have htk : t < k := HS.out t (by simp)
          have htl : t < l.length := by omega
          obtain ⟨b', o', e1, _, q0, q1⟩ := (HR.out.kp HK).pair htl
          injection e1 with e1
          injection e1 with e2 e3
          subst e2 e3
          have ce : wr.cell? ⟨g5, es.length, none⟩ = some (.int .i64 (t : Int)) := by
            obtain ⟨b', o', e1, _, q⟩ := ho2.rd.int (k := es.length) (by rw [rev_len]; simp)
            injection e1 with e1
            injection e1 with e2 e3
            subst e2 e3
            rw [Nat.zero_add] at q
            rw [q]
            simp [rev_cons, List.getElem_append_right, rev_len]
          have p0 : wr.cell? ⟨wo.heap.size, 0, none⟩ = some (.int .i64 l[k].1) := hkp2.cell (cell_of_row _ _ 0 _ _ (0, 0) (heap_alloc_new wo _))
          have p1 : wr.cell? ⟨wo.heap.size, 1, none⟩ = some (.int .i64 l[k].2) := hkp2.cell (cell_of_row _ _ 1 _ _ (0, 0) (heap_alloc_new wo _))
          have hwe : IntKind.i64.wrap (es.length : Int) = (es.length : Int) := IntWalk.i64_in _ (by omega)
          have KS : Hid (∀ W', Kp wr W' → (W'.cell? ⟨g5, es.length, none⟩ = some (.int .i64 (t : Int)) ∧ W'.cell? ⟨b, o + t * 2, none⟩ = some (.int .i64 l[t].1) ∧ W'.cell? ⟨b, o + t * 2 + 1, none⟩ = some (.int .i64 l[t].2) ∧
                W'.cell? ⟨wo.heap.size, 0, none⟩ = some (.int .i64 l[k].1) ∧ W'.cell? ⟨wo.heap.size, 1, none⟩ = some (.int .i64 l[k].2) ∧ W'.cell? ⟨w.heap.size, k, none⟩ = some (.int .i64 uk) ∧ W'.frozen? ⟨w.heap.size, k, none⟩ = false ∧ Kp wr W')) :=
            hide fun W' h => ⟨h.cell ce, h.cell q0, h.cell q1, h.cell p0, h.cell p1, h.cell cu, (h.frozen (by simpa using hgw)).trans cf, h⟩
          have HM1 : Hid (((rev (t :: es)).length + [(k : Int)].length) * 8 ≤ 140737488355328) := hide (by rw [rev_len, List.length_cons, List.length_singleton]; omega)
          have HM2 : Hid ((rev (t :: es)).length + [(k : Int)].length ≤ maxLen) := hide (by rw [rev_len, List.length_cons, List.length_singleton]; unfold maxLen; omega)
          have HPD : Hid (∀ W, OW W w.heap.size 3 eInt (.slice (some ⟨g5, 0, none⟩) (es.length + 1) c5) (rev (t :: es)) → OW W w.heap.size 3 eInt (.slice (some ⟨g5, 0, none⟩) es.length c5) (rev es)) :=
            hide fun W h => by have h1 := OW.pop (l := rev es) (a := (t : Int)) (by rw [← rev_cons]; exact h); rwa [rev_len] at h1
          have hg5n : ¬ g5 = w.heap.size := fun h => hne2 (by rw [h]; rfl)
          have hg5m : ¬ w.heap.size = g5 := fun h => hg5n h.symm
          have hne3 : Hid ((Value.slice (some ⟨g5, 0, none⟩) es.length c5).ownBlock ≠ some w.heap.size) := hide hne2
          have K0 := Kp.refl wr
          have b9 : (0 : Int) ≤ (es.length : Int) := by omega
          have b10 : (es.length : Int) < (es.length : Int) + 1 := by omega
          have b11 : (es.length : Int) + 1 ≤ (c5 : Int) := by omega
          by_cases hlt2 : gv l t < gv l k
          · have hP2 : Hid (popL l (gv l k) es t = popL l (gv l k) (bRun l k).1 (-1)) := hide (by rw [← HP.out]; show _ = popL l (gv l k) (t :: es) last; rw [popL, if_pos hlt2])
            have hdec : decide (l[k].2 ≤ l[t].2) = false := by rw [gv_eq l t htl, gv_eq l k hlt] at hlt2; simp; omega
            clear hlt2
            go_wp2_with fail
            go_region_held3 (fun w' => w'.cell? ⟨g5, es.length, none⟩ = some (.int .i64 (t : Int)) ∧ w'.cell? ⟨b, o + t * 2, none⟩ = some (.int .i64 l[t].1) ∧ w'.cell? ⟨b, o + t * 2 + 1, none⟩ = some (.int .i64 l[t].2) ∧
                w'.cell? ⟨wo.heap.size, 0, none⟩ = some (.int .i64 l[k].1) ∧ w'.cell? ⟨wo.heap.size, 1, none⟩ = some (.int .i64 l[k].2) ∧ w'.cell? ⟨w.heap.size, k, none⟩ = some (.int .i64 uk) ∧ w'.frozen? ⟨w.heap.size, k, none⟩ = false ∧ Kp wr w')
              ((go_split_ands; refine KS.out _ ?_; (focus ((repeat (first | (with_reducible assumption) | (with_reducible exact Kp.refl _) | (with_reducible apply Kp.drew) | (with_reducible apply Kp.drewN) | ((with_reducible apply Kp.setR); (focus (first | (with_reducible assumption) | (simp; done) | (simp; omega)))) | (with_reducible apply Kp.alloc) | ((with_reducible apply Kp.call); (with_reducible assumption)) | ((with_reducible apply Kp.app); (with_reducible assumption)))); done))))
              (first
                | (go_at_call 72; refine (above_to _ _ _ _ false _ hdec).mono ?_; rintro e w1 ⟨rfl, hb1⟩))
            go_split_ands
            go_wp2
            go_roundw
            case rel => exact ⟨es, t, rfl, HPD.out _ (by (focus ((repeat (first | (with_reducible assumption) | (with_reducible apply OW.alloc) | (with_reducible apply OW.drew) | (with_reducible apply OW.drewN) | ((with_reducible apply OW.setCellR); (with_reducible assumption)) | ((with_reducible apply OW.belowR); (with_reducible assumption)) | ((with_reducible apply OW.keptR); (with_reducible assumption); (with_reducible assumption)))); done))), hP2.out, by omega, by omega, by omega, fun u hu => HS.out u (by simp [hu]), hne3.out, hkp2.trans (by (focus ((repeat (first | (with_reducible assumption) | (with_reducible exact Kp.refl _) | (with_reducible apply Kp.drew) | (with_reducible apply Kp.drewN) | ((with_reducible apply Kp.setR); (focus (first | (with_reducible assumption) | (simp; done) | (simp; omega)))) | (with_reducible apply Kp.alloc) | ((with_reducible apply Kp.call); (with_reducible assumption)) | ((with_reducible apply Kp.app); (with_reducible assumption)))); done)))⟩
            case measure => simp [sliceLen]
          · have hdec : decide (l[k].2 ≤ l[t].2) = true := by rw [gv_eq l t htl, gv_eq l k hlt] at hlt2; simp; omega
            have HP' : Hid (popL l (gv l k) (bRun l k).1 (-1) = (t :: es, last)) := hide (by rw [← HP.out, popL, if_neg hlt2])
            clear hlt2
            by_cases hneg : last = -1
            · subst hneg
              clear cfl
              go_wp2_with fail
              go_region_held3 (fun w' => w'.cell? ⟨g5, es.length, none⟩ = some (.int .i64 (t : Int)) ∧ w'.cell? ⟨b, o + t * 2, none⟩ = some (.int .i64 l[t].1) ∧ w'.cell? ⟨b, o + t * 2 + 1, none⟩ = some (.int .i64 l[t].2) ∧
                  w'.cell? ⟨wo.heap.size, 0, none⟩ = some (.int .i64 l[k].1) ∧ w'.cell? ⟨wo.heap.size, 1, none⟩ = some (.int .i64 l[k].2) ∧ w'.cell? ⟨w.heap.size, k, none⟩ = some (.int .i64 uk) ∧ w'.frozen? ⟨w.heap.size, k, none⟩ = false ∧ Kp wr w')
                ((go_split_ands; refine KS.out _ ?_; (focus ((repeat (first | (with_reducible assumption) | (with_reducible exact Kp.refl _) | (with_reducible apply Kp.drew) | (with_reducible apply Kp.drewN) | ((with_reducible apply Kp.setR); (focus (first | (with_reducible assumption) | (simp; done) | (simp; omega)))) | (with_reducible apply Kp.alloc) | ((with_reducible apply Kp.call); (with_reducible assumption)) | ((with_reducible apply Kp.app); (with_reducible assumption)))); done))))
                (first
                  | (go_at_call 72; refine (above_to _ _ _ _ true _ hdec).mono ?_; rintro e w1 ⟨rfl, hb1⟩))
              go_split_ands
              have hk1 : Kp wr w1 := by (focus ((repeat (first | (with_reducible assumption) | (with_reducible exact Kp.refl _) | (with_reducible apply Kp.drew) | (with_reducible apply Kp.drewN) | ((with_reducible apply Kp.setR); (focus (first | (with_reducible assumption) | (simp; done) | (simp; omega)))) | (with_reducible apply Kp.alloc) | ((with_reducible apply Kp.call); (with_reducible assumption)) | ((with_reducible apply Kp.app); (with_reducible assumption)))); done))
              have hk2 : Kp w w1 := HK.trans hk1
              have hz1 := hk1.size
              go_wp2_with (at_builtin; (with_reducible refine list_app (B := w.heap.size) (l := rev (t :: es)) (m := [(k : Int)]) row_int (.slice (some ⟨g5, 0, none⟩) (es.length + 1) c5) ?_ (.tmp 67) (.tmp 69) ?_ ?_ ?_ ?_ HM1.out HM2.out ?_ ?_); (with_reducible rfl); (with_reducible rfl); rfl; (focus ((repeat (first | (with_reducible assumption) | (with_reducible apply OW.alloc) | (with_reducible apply OW.drew) | (with_reducible apply OW.drewN) | ((with_reducible apply OW.setCellR); (with_reducible assumption)) | ((with_reducible apply OW.belowR); (with_reducible assumption)) | ((with_reducible apply OW.keptR); (with_reducible assumption); (with_reducible assumption)))); done)); (show RD _ _ (.slice (some ⟨_, 0, none⟩) 1 1) _; (focus ((repeat (first | (with_reducible assumption) | exact RD.new1 _ rfl | (refine RD.new1e _ ?_ rfl; simp; done) | (with_reducible apply RD.alloc) | (with_reducible apply RD.drew) | (with_reducible apply RD.drewN) | ((with_reducible apply RD.belowR); (with_reducible assumption)))); done))); (exact Kp.size (w := w) (by (focus ((repeat (first | (with_reducible assumption) | (with_reducible exact Kp.refl _) | (with_reducible apply Kp.drew) | (with_reducible apply Kp.drewN) | ((with_reducible apply Kp.setR); (focus (first | (with_reducible assumption) | (simp; done) | (simp; omega)))) | (with_reducible apply Kp.alloc) | ((with_reducible apply Kp.call); (with_reducible assumption)) | ((with_reducible apply Kp.app); (with_reducible assumption)))); done)))); intro v3 w3 ho3 hg3 hat3)
              go_roundw
              case rel => exact BRel.on hlt HP'.out ho3 (by rw [upTo_neg]; have h := AR.grown hg3 hne2 (((HAi.out.kp hk1).set (-1)).set _).alloc; rwa [List.set_set] at h) (own_ne hat3 hne2 (by simp; omega)) (by (focus ((repeat (first | (with_reducible assumption) | (with_reducible exact Kp.refl _) | (with_reducible apply Kp.drew) | (with_reducible apply Kp.drewN) | ((with_reducible apply Kp.setR); (focus (first | (with_reducible assumption) | (simp; done) | (simp; omega)))) | (with_reducible apply Kp.alloc) | ((with_reducible apply Kp.call); (with_reducible assumption)) | ((with_reducible apply Kp.app); (with_reducible assumption)))); done)))
              case measure => simp [intOf]; omega
            · obtain ⟨j, rfl⟩ : ∃ j : Nat, last = j := ⟨last.toNat, by omega⟩
              obtain ⟨ul, cl⟩ := HL.out (by omega)
              rw [Int.toNat_natCast] at cl cfl
              have hjk : ¬ j = k := by omega
              have hjl : (j : Int) < (l.length : Int) := by omega
              clear hneg
              go_wp2_with fail
              go_region_held3 (fun w' => w'.cell? ⟨g5, es.length, none⟩ = some (.int .i64 (t : Int)) ∧ w'.cell? ⟨b, o + t * 2, none⟩ = some (.int .i64 l[t].1) ∧ w'.cell? ⟨b, o + t * 2 + 1, none⟩ = some (.int .i64 l[t].2) ∧
                  w'.cell? ⟨wo.heap.size, 0, none⟩ = some (.int .i64 l[k].1) ∧ w'.cell? ⟨wo.heap.size, 1, none⟩ = some (.int .i64 l[k].2) ∧ w'.cell? ⟨w.heap.size, k, none⟩ = some (.int .i64 uk) ∧ w'.frozen? ⟨w.heap.size, k, none⟩ = false ∧ Kp wr w')
                ((go_split_ands; refine KS.out _ ?_; (focus ((repeat (first | (with_reducible assumption) | (with_reducible exact Kp.refl _) | (with_reducible apply Kp.drew) | (with_reducible apply Kp.drewN) | ((with_reducible apply Kp.setR); (focus (first | (with_reducible assumption) | (simp; done) | (simp; omega)))) | (with_reducible apply Kp.alloc) | ((with_reducible apply Kp.call); (with_reducible assumption)) | ((with_reducible apply Kp.app); (with_reducible assumption)))); done))))
                (first
                  | (go_at_call 72; refine (above_to _ _ _ _ true _ hdec).mono ?_; rintro e w1 ⟨rfl, hb1⟩))
              go_split_ands
              have hk1 : Kp wr w1 := by (focus ((repeat (first | (with_reducible assumption) | (with_reducible exact Kp.refl _) | (with_reducible apply Kp.drew) | (with_reducible apply Kp.drewN) | ((with_reducible apply Kp.setR); (focus (first | (with_reducible assumption) | (simp; done) | (simp; omega)))) | (with_reducible apply Kp.alloc) | ((with_reducible apply Kp.call); (with_reducible assumption)) | ((with_reducible apply Kp.app); (with_reducible assumption)))); done))
              have hk2 : Kp w w1 := HK.trans hk1
              have hz1 := hk1.size
              have cl1 := hk1.cell cl
              have cfl1 := (hk1.frozen (by simpa using hgw)).trans cfl
              go_wp2_with (at_builtin; (with_reducible refine list_app (B := w.heap.size) (l := rev (t :: es)) (m := [(k : Int)]) row_int (.slice (some ⟨g5, 0, none⟩) (es.length + 1) c5) ?_ (.tmp 67) (.tmp 69) ?_ ?_ ?_ ?_ HM1.out HM2.out ?_ ?_); (with_reducible rfl); (with_reducible rfl); rfl; (focus ((repeat (first | (with_reducible assumption) | (with_reducible apply OW.alloc) | (with_reducible apply OW.drew) | (with_reducible apply OW.drewN) | ((with_reducible apply OW.setCellR); (with_reducible assumption)) | ((with_reducible apply OW.belowR); (with_reducible assumption)) | ((with_reducible apply OW.keptR); (with_reducible assumption); (with_reducible assumption)))); done)); (show RD _ _ (.slice (some ⟨_, 0, none⟩) 1 1) _; (focus ((repeat (first | (with_reducible assumption) | exact RD.new1 _ rfl | (refine RD.new1e _ ?_ rfl; simp; done) | (with_reducible apply RD.alloc) | (with_reducible apply RD.drew) | (with_reducible apply RD.drewN) | ((with_reducible apply RD.belowR); (with_reducible assumption)))); done))); (exact Kp.size (w := w) (by (focus ((repeat (first | (with_reducible assumption) | (with_reducible exact Kp.refl _) | (with_reducible apply Kp.drew) | (with_reducible apply Kp.drewN) | ((with_reducible apply Kp.setR); (focus (first | (with_reducible assumption) | (simp; done) | (simp; omega)))) | (with_reducible apply Kp.alloc) | ((with_reducible apply Kp.call); (with_reducible assumption)) | ((with_reducible apply Kp.app); (with_reducible assumption)))); done)))); intro v3 w3 ho3 hg3 hat3)
              go_roundw
              case rel => exact BRel.on hlt HP'.out ho3 (by rw [upTo_pos _ _ _ _ (by omega), Int.toNat_natCast]; have h := AR.grown hg3 hne2 ((((HAi.out.kp hk1).set (-1)).set _).set _).alloc; rwa [List.set_set] at h) (own_ne hat3 hne2 (by simp; omega)) (by (focus ((repeat (first | (with_reducible assumption) | (with_reducible exact Kp.refl _) | (with_reducible apply Kp.drew) | (with_reducible apply Kp.drewN) | ((with_reducible apply Kp.setR); (focus (first | (with_reducible assumption) | (simp; done) | (simp; omega)))) | (with_reducible apply Kp.alloc) | ((with_reducible apply Kp.call); (with_reducible assumption)) | ((with_reducible apply Kp.app); (with_reducible assumption)))); done)))
              case measure => simp [intOf]; omega
    · have hkl : k = l.length := by omega
      go_wp2
      go_ret
      subst hkl
      exact ⟨w.heap.size, by rw [show (builtL l).length = l.length from bRun_len l _]; rfl, Nat.le_refl _, HA.out, hkp.bel⟩
end Go.Proofs.YtfgbbmjnjppfnaaDoor
namespace Go.Proofs.YtfgbbmjnjppfnaaDoor
open Go.ChangeShapes Go.WideShapes Go.ChangeAt Go.RowKit
set_option linter.unusedVariables false
set_option linter.unusedSimpArgs false

/-- How many stand above, by who stands next above. -/
inductive Dp (up : List Int) : Int → Int → Prop where
  | base (k : Int) : k < 0 → Dp up k (-1)
  | step (k : Nat) (d : Int) (h : k < up.length) : Dp up up[k] d → Dp up (k : Int) (d + 1)
theorem Dp.ge {up : List Int} {k d : Int} (h : Dp up k d) : -1 ≤ d := by
  induction h with
  | base => omega
  | step => omega

set_option maxHeartbeats 400000 in
theorem depth_any (up : List Int) (b6 b3 g og c : Nat) (fv : Value) (hfv : fv = .func (.func 71) #[] #[.pointer (some ⟨b6, 0, none⟩), .pointer (some ⟨b3, 0, none⟩)]) (k d : Int) (h : Dp up k d) :
    ∀ w : World, d ≤ 1000000 → w.cell? ⟨b6, 0, none⟩ = some fv → w.cell? ⟨b3, 0, none⟩ = some (.slice (some ⟨g, og, none⟩) up.length c) → (∀ j (hj : j < up.length), w.cell? ⟨g, og + j, none⟩ = some (.int .i64 up[j])) →
    Calls Tryd.prog 71 #[.int .i64 k, .pointer (some ⟨b6, 0, none⟩), .pointer (some ⟨b3, 0, none⟩)] w (Drew (.int .i64 d) w) := by
  induction h with
  | base k hk =>
    intro w hd c6 c3 cu
    clear cu
    go_enter Tryd.func71, Tryd.ntmps71
    go_wp2
    go_ret
    exact ⟨rfl, 0, rfl⟩
  | step k d hk hdp ih =>
    intro w hd c6 c3 cu
    have hge := hdp.ge
    have cu' := cu k hk
    have IH := hide (fun n => ih (w.drewN n) (by omega) c6 c3 cu)
    clear ih cu
    subst hfv
    have hk' : (k : Int) < (up.length : Int) := by omega
    have hk0 : (0 : Int) ≤ (k : Int) := by omega
    have hw : IntKind.i64.wrap (d + 1) = d + 1 := IntWalk.i64_in _ (by omega)
    go_enter Tryd.func71, Tryd.ntmps71
    go_wp2_with fail
    go_quiet ((go_at_call 71; exact Calls.quiet_of (IH.out _)))
    go_wp2
    go_ret
    exact ⟨rfl, _, rfl⟩

def dl (l : List IP) (D : Nat → Int) : List IP := (List.range l.length).map fun k => ((l.getD k (0, 0)).1, D k)
theorem dl_len (l : List IP) (D : Nat → Int) : (dl l D).length = l.length := by simp [dl]
theorem dl_at (l : List IP) (D : Nat → Int) (k : Nat) (h : k < l.length) : (dl l D)[k]'(by rw [dl_len]; exact h) = (l[k].1, D k) := by
  simp [dl, List.getD_eq_getElem?_getD, List.getElem?_eq_getElem h]
def DRel (l : List IP) (D : Nat → Int) (w : World) (u i : Value) (wr : World) : Prop :=
  ∃ k : Nat, k ≤ l.length ∧ i = .int .i64 k ∧ AR wr (w.heap.size + 1) 51 ePair (part (dl l D) (0, 0) k) ∧ Kp w wr ∧
    wr.cell? ⟨w.heap.size, 0, none⟩ = some u ∧ wr.cell? ⟨w.heap.size + 2, 0, none⟩ = some (.func (.func 71) #[] #[.pointer (some ⟨w.heap.size + 2, 0, none⟩), .pointer (some ⟨w.heap.size, 0, none⟩)]) ∧ w.heap.size + 2 < wr.heap.size

set_option maxRecDepth 100000 in
set_option maxHeartbeats 1000000 in
theorem hspots_any (l : List IP) (up : List Int) (D : Nat → Int) (v u : Value) (w : World) (hr : RD w ePair v l) (hu : RD w eInt u up) (hn : l.length ≤ 1000) (hul : up.length = l.length)
    (hD : ∀ k : Nat, k < l.length → Dp up (k : Int) (D k) ∧ D k ≤ 1000000) : Calls Tryd.prog 51 #[v, u] w (RetAR 51 ePair (dl l D) w) := by
  obtain ⟨A, c, rfl, hc, hm⟩ := hr.shape
  obtain ⟨A2, c2, rfl, hc2, hm2⟩ := hu.shape
  obtain ⟨C, hC, hmk⟩ := run_mk row_spot (0, 0) zero_spot l.length (by omega) (by simp [maxLen]; omega)
  have HR := hide hr
  have HU := hide hu
  have HD := hide hD
  have HUL := hide hul
  clear hr hu hD hul
  go_enter Tryd.func51, Tryd.ntmps51
  go_wp2
  go_loopw [15] (DRel l D w (.slice A2 up.length c2)) (fun i _ => l.length - (intOf i).toNat)
  case atStart =>
    refine ⟨0, by omega, rfl, ?_, ?_, ?_, ?_, ?_⟩
    · rw [part_zero, dl_len]
      have h := (AR.made (e := 51) (W := w.alloc (.cells #[.slice A2 up.length c2] 30)) hC)
      simp only [World.size_alloc] at h
      exact h.alloc
    · (focus ((repeat (first | (with_reducible assumption) | (with_reducible exact Kp.refl _) | (with_reducible apply Kp.drew) | (with_reducible apply Kp.drewN) | ((with_reducible apply Kp.setR); (focus (first | (with_reducible assumption) | (simp; done) | (simp; omega)))) | (with_reducible apply Kp.alloc) | ((with_reducible apply Kp.call); (with_reducible assumption)) | ((with_reducible apply Kp.app); (with_reducible assumption)))); done))
    · simp [go_sem]
    · simp [go_sem]
    · simp
  case round =>
    obtain ⟨k, hk, rfl, ha, hkp, c3, c6, hsz⟩ := hrel
    have HA := hide ha
    clear ha
    by_cases hlt : k < l.length
    · obtain ⟨b, o, rfl, hb, c0, c1⟩ := (HR.out.kp hkp).pair hlt
      have hpl : (part (dl l D) (0, 0) k).length = l.length := by rw [part_len _ _ _ (by rw [dl_len]; omega), dl_len]
      obtain ⟨x0, y0⟩ : ∃ x, wr.cell? ⟨w.heap.size + 1, k * 2, none⟩ = some x := ⟨_, HA.out.cell k (by omega) 0 (by decide)⟩
      obtain ⟨x1, y1⟩ : ∃ x, wr.cell? ⟨w.heap.size + 1, k * 2 + 1, none⟩ = some x := ⟨_, HA.out.cell k (by omega) 1 (by decide)⟩
      have f0 : wr.frozen? ⟨w.heap.size + 1, k * 2, none⟩ = false := HA.out.frozen _
      have f1 : wr.frozen? ⟨w.heap.size + 1, k * 2 + 1, none⟩ = false := HA.out.frozen _
      have hg : w.heap.size + 1 < wr.heap.size := HA.out.lt
      have hk2 : (k : Int) < (l.length : Int) := by omega
      have hn1 : ¬ wr.heap.size = w.heap.size + 1 := by omega
      have hn2 : ¬ w.heap.size + 1 = wr.heap.size := by omega
      have HC : Hid (∀ W, Kp (wr.alloc (.cells #[.int .i64 l[k].1, .int .i64 l[k].2] 62)) W → Calls Tryd.prog 71 #[.int .i64 (k : Int), .pointer (some ⟨w.heap.size + 2, 0, none⟩), .pointer (some ⟨w.heap.size, 0, none⟩)] W (Drew (.int .i64 (D k)) W)) :=
        hide fun W h => by
          have hh : Kp wr W := ((Kp.refl wr).alloc).trans h
          have hul := HUL.out
          obtain ⟨b2, o2, e2, _, _⟩ := (HU.out.kp hkp).int (k := 0) (by omega)
          subst e2
          refine depth_any up (w.heap.size + 2) w.heap.size b2 o2 c2 _ rfl k (D k) (HD.out k hlt).1 W (HD.out k hlt).2 (hh.cell c6) (hh.cell c3) fun j hj => ?_
          obtain ⟨b4, o4, e4, _, q⟩ := ((HU.out.kp hkp).kp hh).int hj
          injection e4 with e4
          injection e4 with e5 e6
          subst e5 e6
          exact q
      have K0 := Kp.refl (wr.alloc (.cells #[.int .i64 l[k].1, .int .i64 l[k].2] 62))
      go_wp2_with fail
      go_region_held3 (fun w' => w'.cell? ⟨wr.heap.size, 0, none⟩ = some (.int .i64 l[k].1) ∧ w'.cell? ⟨w.heap.size + 2, 0, none⟩ = some (.func (.func 71) #[] #[.pointer (some ⟨w.heap.size + 2, 0, none⟩), .pointer (some ⟨w.heap.size, 0, none⟩)]))
        (first | go_keep | fail)
        (first
          | (go_at_call 71; refine (HC.out _ ?_).mono ?_; (go_split_ands; (focus ((repeat (first | (with_reducible assumption) | (with_reducible exact Kp.refl _) | (with_reducible apply Kp.drew) | (with_reducible apply Kp.drewN) | ((with_reducible apply Kp.setR); (focus (first | (with_reducible assumption) | (simp; done) | (simp; omega)))) | (with_reducible apply Kp.alloc) | ((with_reducible apply Kp.call); (with_reducible assumption)) | ((with_reducible apply Kp.app); (with_reducible assumption)))); done))); rintro e w1 ⟨rfl, n1, rfl⟩))
      go_wp2
      go_roundw
      case rel =>
        refine ⟨k + 1, by omega, by go_num, ?_, ?_, ?_, ?_, ?_⟩
        · rw [← part_set _ _ k (by rw [dl_len]; exact hlt), dl_at l D k hlt]
          exact AR.setPair (HA.out.alloc.drewN) (l[k].1, D k)
        · exact Kp.setR (by simp) (Kp.setR (by simp) (by (focus ((repeat (first | (with_reducible assumption) | (with_reducible exact Kp.refl _) | (with_reducible apply Kp.drew) | (with_reducible apply Kp.drewN) | ((with_reducible apply Kp.setR); (focus (first | (with_reducible assumption) | (simp; done) | (simp; omega)))) | (with_reducible apply Kp.alloc) | ((with_reducible apply Kp.call); (with_reducible assumption)) | ((with_reducible apply Kp.app); (with_reducible assumption)))); done))))
        · simp [*, World.cell?_alloc_some, World.cell?_setCell_far]
        · simp [*, World.cell?_alloc_some, World.cell?_setCell_far]
        · simp; omega
      case measure => simp [intOf]; omega
    · have hkl : k = l.length := by omega
      go_wp2
      go_ret
      subst hkl
      refine ⟨w.heap.size + 1, by rw [dl_len]; rfl, by omega, ?_, hkp.bel⟩
      have h := HA.out
      rwa [show l.length = (dl l D).length from (dl_len l D).symm, part_end] at h
end Go.Proofs.YtfgbbmjnjppfnaaDoor
namespace Go.Proofs.YtfgbbmjnjppfnaaDoor
open Go.ChangeShapes Go.WideShapes Go.ChangeAt Go.RowKit
set_option linter.unusedVariables false
set_option linter.unusedSimpArgs false

inductive T where
  | nil
  | node (k : Int) (l r : T)
def T.size : T → Nat
  | .nil => 0
  | .node _ l r => l.size + 1 + r.size
def T.spots : T → Int → List IP
  | .nil, _ => []
  | .node k l r, d => l.spots (d + 1) ++ [(k, d)] ++ r.spots (d + 1)
theorem T.spots_len : ∀ (t : T) (d : Int), (t.spots d).length = t.size
  | .nil, _ => rfl
  | .node k l r, d => by simp [T.spots, T.size, T.spots_len l, T.spots_len r]; omega

def TR (w : World) : T → Option Addr → Prop
  | .nil, p => p = none
  | .node k l r, p => ∃ b pl pr, p = some ⟨b, 0, none⟩ ∧ b < w.heap.size ∧ w.cell? ⟨b, 0, none⟩ = some (.int .i64 k) ∧ w.cell? ⟨b, 1, none⟩ = some (.pointer pl) ∧ w.cell? ⟨b, 2, none⟩ = some (.pointer pr) ∧ TR w l pl ∧ TR w r pr
theorem TR.keep {w w' : World} (hs : w.heap.size ≤ w'.heap.size) (hk : ∀ p : Addr, p.block < w.heap.size → w'.cell? p = w.cell? p) : ∀ {t : T} {v : Option Addr}, TR w t v → TR w' t v
  | .nil, _, h => h
  | .node _ _ _, _, ⟨b, pl, pr, h1, h2, h3, h4, h5, h6, h7⟩ => ⟨b, pl, pr, h1, by omega, (hk _ h2).trans h3, (hk _ h2).trans h4, (hk _ h2).trans h5, TR.keep hs hk h6, TR.keep hs hk h7⟩
theorem TR.kp {w w' : World} {t : T} {v : Option Addr} (h : TR w t v) (hb : Kp w w') : TR w' t v := TR.keep (Kp.size hb) (fun p hp => Below.cell (Kp.bel hb) hp) h
theorem TR.below {w w' : World} {t : T} {v : Option Addr} (h : TR w t v) (hb : Below w.heap.size w w') : TR w' t v := TR.keep hb.size (fun p hp => hb.cell hp) h

theorem TR.mk {w : World} {k : Int} {l r : T} {pl pr : Option Addr} (hl : TR w l pl) (hr : TR w r pr) (tt : TypeId) : TR (w.alloc (.cells #[.int .i64 k, .pointer pl, .pointer pr] tt)) (.node k l r) (some ⟨w.heap.size, 0, none⟩) := by
  have hk : Kp w (w.alloc (.cells #[.int .i64 k, .pointer pl, .pointer pr] tt)) := (Kp.refl w).alloc
  exact ⟨w.heap.size, pl, pr, rfl, by simp, cell_of_row _ _ 0 _ tt (0, 0) (heap_alloc_new w _), cell_of_row _ _ 1 _ tt (0, 0) (heap_alloc_new w _), cell_of_row _ _ 2 _ tt (0, 0) (heap_alloc_new w _), hl.kp hk, hr.kp hk⟩
def RetTR (t : T) (w : World) (e : Ending) (w' : World) : Prop := ∃ p, e = .returned (.pointer p) ∧ TR w' t p ∧ Below w.heap.size w w'

set_option maxRecDepth 100000 in
set_option maxHeartbeats 400000 in
theorem spots_any : ∀ (t : T) (v : Option Addr) (d : Int) (w : World), TR w t v → 0 ≤ d → d + t.size ≤ 1073741824 →
    Calls Tryd.prog 15 #[.pointer v, .int .i64 d] w (RetOW 51 ePair (t.spots d) w)
  | .nil, v, d, w, h, h0, h1 => by
    have h' : v = none := h
    subst h'
    go_enter Tryd.func15, Tryd.ntmps15
    go_wp2
    go_ret
    exact ⟨_, rfl, OW.nil, Below.refl _ _⟩
  | .node k l r, v, d, w, h, h0, h1 => by
    obtain ⟨b, pl, pr, rfl, hb, c0, c1, c2, hl, hr⟩ := h
    simp only [T.size] at h1
    have HI := hide (fun w h => spots_any l pl (d + 1) w h (by omega) (by omega))
    have HJ := hide (fun w h => spots_any r pr (d + 1) w h (by omega) (by omega))
    have HL := hide hl
    have HR := hide hr
    clear hl hr
    have HM1 : Hid (((l.spots (d + 1)).length + [(k, d)].length) * 16 ≤ 140737488355328) := hide (by rw [T.spots_len]; simp; omega)
    have HM2 : Hid ((l.spots (d + 1)).length + [(k, d)].length ≤ maxLen) := hide (by rw [T.spots_len]; simp [maxLen]; omega)
    have HM3 : Hid (((l.spots (d + 1) ++ [(k, d)]).length + (r.spots (d + 1)).length) * 16 ≤ 140737488355328) := hide (by rw [List.length_append, T.spots_len, T.spots_len]; simp; omega)
    have HM4 : Hid ((l.spots (d + 1) ++ [(k, d)]).length + (r.spots (d + 1)).length ≤ maxLen) := hide (by rw [List.length_append, T.spots_len, T.spots_len]; simp [maxLen]; omega)
    have KS : Hid (∀ W', Kp w W' → (W'.cell? ⟨b, 0, none⟩ = some (.int .i64 k) ∧ W'.cell? ⟨b, 1, none⟩ = some (.pointer pl) ∧ W'.cell? ⟨b, 2, none⟩ = some (.pointer pr) ∧ Kp w W')) :=
      hide fun W' h => ⟨h.cell c0, h.cell c1, h.cell c2, h⟩
    have K0 := Kp.refl w
    have K1 := K0.drew
    have hw : IntKind.i64.wrap (d + 1) = d + 1 := IntWalk.i64_in _ (by omega)
    clear h0 h1
    go_enter Tryd.func15, Tryd.ntmps15
    go_wp2_with fail
    go_region_held3 (fun w' => w'.cell? ⟨b, 0, none⟩ = some (.int .i64 k) ∧ w'.cell? ⟨b, 1, none⟩ = some (.pointer pl) ∧ w'.cell? ⟨b, 2, none⟩ = some (.pointer pr) ∧ Kp w w')
      ((go_split_ands
        refine KS.out _ ?_
        (focus ((repeat (first | (with_reducible assumption) | (with_reducible exact Kp.refl _) | (with_reducible apply Kp.drew) | (with_reducible apply Kp.drewN) | ((with_reducible apply Kp.setR); (focus (first | (with_reducible assumption) | (simp; done) | (simp; omega)))) | (with_reducible apply Kp.alloc) | ((with_reducible apply Kp.call); (with_reducible assumption)) | ((with_reducible apply Kp.app); (with_reducible assumption)))); done))))
      (first
        | (go_at_call_of 15 (Value.pointer pl); refine (HI.out _ (HL.out.below (Kp.bel ?_))).mono ?_; (go_split_ands; (focus ((repeat (first | (with_reducible assumption) | (with_reducible exact Kp.refl _) | (with_reducible apply Kp.drew) | (with_reducible apply Kp.drewN) | ((with_reducible apply Kp.setR); (focus (first | (with_reducible assumption) | (simp; done) | (simp; omega)))) | (with_reducible apply Kp.alloc) | ((with_reducible apply Kp.call); (with_reducible assumption)) | ((with_reducible apply Kp.app); (with_reducible assumption)))); done))); rintro e w1 ⟨v1, rfl, ho1', hb1⟩; have ho1 := OW.more ho1' (Kp.size (w := w) (by go_split_ands; (focus ((repeat (first | (with_reducible assumption) | (with_reducible exact Kp.refl _) | (with_reducible apply Kp.drew) | (with_reducible apply Kp.drewN) | ((with_reducible apply Kp.setR); (focus (first | (with_reducible assumption) | (simp; done) | (simp; omega)))) | (with_reducible apply Kp.alloc) | ((with_reducible apply Kp.call); (with_reducible assumption)) | ((with_reducible apply Kp.app); (with_reducible assumption)))); done)))); have lo1 := ho1.lo; have hi1 := ho1.hi; clear ho1')
        | (go_at_call_of 15 (Value.pointer pr); refine (HJ.out _ (HR.out.below (Kp.bel ?_))).mono ?_; (go_split_ands; (focus ((repeat (first | (with_reducible assumption) | (with_reducible exact Kp.refl _) | (with_reducible apply Kp.drew) | (with_reducible apply Kp.drewN) | ((with_reducible apply Kp.setR); (focus (first | (with_reducible assumption) | (simp; done) | (simp; omega)))) | (with_reducible apply Kp.alloc) | ((with_reducible apply Kp.call); (with_reducible assumption)) | ((with_reducible apply Kp.app); (with_reducible assumption)))); done))); rintro e w2 ⟨v2, rfl, ho2', hb2⟩; have ho2 := OW.more ho2' (Kp.size (w := w) (by go_split_ands; (focus ((repeat (first | (with_reducible assumption) | (with_reducible exact Kp.refl _) | (with_reducible apply Kp.drew) | (with_reducible apply Kp.drewN) | ((with_reducible apply Kp.setR); (focus (first | (with_reducible assumption) | (simp; done) | (simp; omega)))) | (with_reducible apply Kp.alloc) | ((with_reducible apply Kp.call); (with_reducible assumption)) | ((with_reducible apply Kp.app); (with_reducible assumption)))); done)))); try have hap := lo1.apart (Hi.mono ho2'.hi (by simp)); clear ho2')
        | ((with_reducible refine step_app (l := l.spots (d + 1)) (m := [(k, d)]) row_spot v1 ?_ (.tmp 13) (.tmp 20) ?_ ?_ ?_ ?_ HM1.out HM2.out (Kp.size (w := w) ?_) ?_); (with_reducible rfl); (with_reducible rfl); rfl; (focus ((repeat (first | (with_reducible assumption) | (with_reducible apply OW.alloc) | (with_reducible apply OW.drew) | (with_reducible apply OW.drewN) | ((with_reducible apply OW.setCellR); (with_reducible assumption)) | ((with_reducible apply OW.belowR); (with_reducible assumption)) | ((with_reducible apply OW.keptR); (with_reducible assumption); (with_reducible assumption)))); done)); (show RD _ _ (.slice (some ⟨_, 0, none⟩) 1 1) _; (focus ((repeat (first | (with_reducible assumption) | exact RD.new1 _ rfl | (refine RD.new1e _ ?_ rfl; simp; done) | (with_reducible apply RD.alloc) | (with_reducible apply RD.drew) | (with_reducible apply RD.drewN) | ((with_reducible apply RD.belowR); (with_reducible assumption)))); done))); (go_split_ands; (focus ((repeat (first | (with_reducible assumption) | (with_reducible exact Kp.refl _) | (with_reducible apply Kp.drew) | (with_reducible apply Kp.drewN) | ((with_reducible apply Kp.setR); (focus (first | (with_reducible assumption) | (simp; done) | (simp; omega)))) | (with_reducible apply Kp.alloc) | ((with_reducible apply Kp.call); (with_reducible assumption)) | ((with_reducible apply Kp.app); (with_reducible assumption)))); done))); intro v3 w3 ho3 hg3 hat3; have hi3 := ho3.hi)
        | ((with_reducible refine step_app (l := l.spots (d + 1) ++ [(k, d)]) (m := r.spots (d + 1)) row_spot v3 ?_ (.tmp 21) (.tmp 28) ?_ ?_ ?_ ?_ HM3.out HM4.out (Kp.size (w := w) ?_) ?_); (with_reducible rfl); (with_reducible rfl); rfl; (focus ((repeat (first | (with_reducible assumption) | (with_reducible apply OW.alloc) | (with_reducible apply OW.drew) | (with_reducible apply OW.drewN) | ((with_reducible apply OW.setCellR); (with_reducible assumption)) | ((with_reducible apply OW.belowR); (with_reducible assumption)) | ((with_reducible apply OW.keptR); (with_reducible assumption); (with_reducible assumption)))); done)); (show RD _ _ v2 _; refine OW.rd (B := w.heap.size) (e := 51) ?_; (focus ((repeat (first | (with_reducible assumption) | (with_reducible apply OW.alloc) | (with_reducible apply OW.drew) | (with_reducible apply OW.drewN) | ((with_reducible apply OW.setCellR); (with_reducible assumption)) | ((with_reducible apply OW.belowR); (with_reducible assumption)) | ((with_reducible apply OW.keptR); (with_reducible assumption); (with_reducible assumption)))); done))); (go_split_ands; (focus ((repeat (first | (with_reducible assumption) | (with_reducible exact Kp.refl _) | (with_reducible apply Kp.drew) | (with_reducible apply Kp.drewN) | ((with_reducible apply Kp.setR); (focus (first | (with_reducible assumption) | (simp; done) | (simp; omega)))) | (with_reducible apply Kp.alloc) | ((with_reducible apply Kp.call); (with_reducible assumption)) | ((with_reducible apply Kp.app); (with_reducible assumption)))); done))); intro v4 w4 ho4 hg4 hat4))
    all_goals
      go_wp2
      go_ret
      exact ⟨_, rfl, ho4, Kp.bel (by (focus ((repeat (first | (with_reducible assumption) | (with_reducible exact Kp.refl _) | (with_reducible apply Kp.drew) | (with_reducible apply Kp.drewN) | ((with_reducible apply Kp.setR); (focus (first | (with_reducible assumption) | (simp; done) | (simp; omega)))) | (with_reducible apply Kp.alloc) | ((with_reducible apply Kp.call); (with_reducible assumption)) | ((with_reducible apply Kp.app); (with_reducible assumption)))); done)))⟩
end Go.Proofs.YtfgbbmjnjppfnaaDoor
namespace Go.Proofs.YtfgbbmjnjppfnaaDoor
open Go.ChangeShapes Go.WideShapes Go.ChangeAt Go.RowKit
set_option linter.unusedVariables false
set_option linter.unusedSimpArgs false

/-- The place of the first pair with the greatest value, from a place and a best one on. -/
def amax (l : List IP) : Nat → Nat → Nat → Nat
  | 0, _, at_ => at_
  | n + 1, k, at_ => amax l n (k + 1) (if (l.getD at_ (0, 0)).2 < (l.getD k (0, 0)).2 then k else at_)
def top (l : List IP) : Nat := amax l l.length 0 0
theorem amax_lt (l : List IP) : ∀ n k a, a < l.length → k + n ≤ l.length → amax l n k a < l.length
  | 0, _, a, h, _ => h
  | n + 1, k, a, h, hk => by
    unfold amax
    split
    · exact amax_lt l n (k + 1) k (by omega) (by omega)
    · exact amax_lt l n (k + 1) a h (by omega)
theorem top_lt (l : List IP) (h : l ≠ []) : top l < l.length := amax_lt l l.length 0 0 (List.length_pos_iff.2 h) (by omega)
theorem amax_step (l : List IP) (k a : Nat) (h : k < l.length) (ha : a < l.length) : amax l (l.length - k) k a = amax l (l.length - (k + 1)) (k + 1) (if l[a].2 < l[k].2 then k else a) := by
  rw [show l.length - k = (l.length - (k + 1)) + 1 from by omega, amax]
  simp [List.getD_eq_getElem?_getD, List.getElem?_eq_getElem h, List.getElem?_eq_getElem ha]

def heapTree (l : List IP) : T :=
  if h : l = [] then .nil
  else
    have := top_lt l h
    .node (l[top l]'(top_lt l h)).1 (heapTree (l.take (top l))) (heapTree (l.drop (top l + 1)))
termination_by l.length
decreasing_by
  · simp; omega
  · simp; omega
theorem heapTree_nil : heapTree [] = .nil := by rw [heapTree]; simp
theorem heapTree_cons (l : List IP) (h : l ≠ []) : heapTree l = .node (l[top l]'(top_lt l h)).1 (heapTree (l.take (top l))) (heapTree (l.drop (top l + 1))) := by
  rw [heapTree, dif_neg h]
theorem heapTree_size (l : List IP) : (heapTree l).size = l.length := by
  by_cases h : l = []
  · subst h; rw [heapTree_nil]; rfl
  · have hl := top_lt l h
    rw [heapTree_cons l h, T.size, heapTree_size (l.take (top l)), heapTree_size (l.drop (top l + 1))]
    simp; omega
termination_by l.length
decreasing_by
  · simp; omega
  · simp; omega

def HRel (l : List IP) (w : World) (a i : Value) (wr : World) : Prop :=
  ∃ (k m : Nat), k ≤ l.length ∧ m < l.length ∧ i = .int .i64 k ∧ a = .int .i64 m ∧ amax l (l.length - k) k m = top l ∧ Kp w wr

set_option maxRecDepth 100000 in
set_option maxHeartbeats 1000000 in
theorem heapTree_any (n : Nat) : ∀ (l : List IP) (v : Value) (w : World), l.length ≤ n → n ≤ 1073741824 → RD w ePair v l → Calls Tryd.prog 41 #[v] w (RetTR (heapTree l) w) := by
  induction n with
  | zero =>
    intro l v w h0 hn hr
    have hl : l = [] := List.eq_nil_of_length_eq_zero (by omega)
    subst hl
    obtain ⟨A, c, rfl, hc, hm⟩ := hr.shape
    go_enter Tryd.func41, Tryd.ntmps41
    go_wp2
    go_ret
    exact ⟨_, rfl, by rw [heapTree_nil]; rfl, Below.refl _ _⟩
  | succ n ih =>
    intro l v w h0 hn hr
    have IH := hide ih
    clear ih
    obtain ⟨A, c, rfl, hc, hm⟩ := hr.shape
    by_cases hl : l.length = 0
    · have hl' : l = [] := List.eq_nil_of_length_eq_zero hl
      subst hl'
      go_enter Tryd.func41, Tryd.ntmps41
      go_wp2
      go_ret
      exact ⟨_, rfl, by rw [heapTree_nil]; rfl, Below.refl _ _⟩
    · have hne : l ≠ [] := by rintro rfl; exact hl rfl
      have hlb : ((l.length : Int) == 0) = false := by simp; omega
      have HR := hide hr
      clear hr
      have hpos : 0 < l.length := by omega
      have hl' := hide hl
      have hne' := hide hne
      clear hl hne
      go_enter Tryd.func41, Tryd.ntmps41
      go_wp2
      go_loopw [3, 11] (HRel l w) (fun a i wr => l.length - (intOf i).toNat)
      case atStart => exact ⟨0, 0, by omega, hpos, rfl, rfl, rfl, Kp.refl _⟩
      case round =>
        obtain ⟨k, m, hk, hml, rfl, rfl, htop, hkp⟩ := hrel
        have htop' := hide htop
        clear htop
        by_cases hlt : k < l.length
        · obtain ⟨b, o, rfl, hb, c0, c1⟩ := (HR.out.kp hkp).pair hlt
          obtain ⟨b2, o2, e2, hb2, d0, d1⟩ := (HR.out.kp hkp).pair hml
          injection e2 with e2
          injection e2 with e3 e4
          subst e3 e4
          have hst := amax_step l k m hlt hml
          by_cases hgt : l[m].2 < l[k].2
          · rw [if_pos hgt] at hst
            have hst' := hide hst
            clear hst
            go_wp2_with fail
            go_quiet (fail)
            go_wp2
            go_roundw
            case rel => exact ⟨k + 1, k, by omega, by omega, by go_num, rfl, by rw [← hst'.out, htop'.out], (by (focus ((repeat (first | (with_reducible assumption) | (with_reducible exact Kp.refl _) | (with_reducible apply Kp.drew) | (with_reducible apply Kp.drewN) | ((with_reducible apply Kp.setR); (focus (first | (with_reducible assumption) | (simp; done) | (simp; omega)))) | (with_reducible apply Kp.alloc) | ((with_reducible apply Kp.call); (with_reducible assumption)) | ((with_reducible apply Kp.app); (with_reducible assumption)))); done)))⟩
            case measure => simp [intOf]; omega
          · rw [if_neg hgt] at hst
            have hst' := hide hst
            clear hst
            go_wp2_with fail
            go_quiet (fail)
            go_wp2
            go_roundw
            case rel => exact ⟨k + 1, m, by omega, by omega, by go_num, rfl, by rw [← hst'.out, htop'.out], (by (focus ((repeat (first | (with_reducible assumption) | (with_reducible exact Kp.refl _) | (with_reducible apply Kp.drew) | (with_reducible apply Kp.drewN) | ((with_reducible apply Kp.setR); (focus (first | (with_reducible assumption) | (simp; done) | (simp; omega)))) | (with_reducible apply Kp.alloc) | ((with_reducible apply Kp.call); (with_reducible assumption)) | ((with_reducible apply Kp.app); (with_reducible assumption)))); done)))⟩
            case measure => simp [intOf]; omega
        · have hm' : m = top l := by
            have := htop'.out
            rwa [show l.length - k = 0 from by omega] at this
          have hm'' := hide hm'
          clear hm'
          obtain ⟨b, o, rfl, hb, c0, c1⟩ := (HR.out.kp hkp).pair hml
          have b1 : (m : Int) < (l.length : Int) := by omega
          have b2 : (m : Int) ≤ (c : Int) := by omega
          have b3 : (0 : Int) ≤ (m : Int) := by omega
          have b4 : (m : Int) + 1 ≤ (l.length : Int) := by omega
          have b5 : (0 : Int) ≤ (m : Int) + 1 := by omega
          have KS : Hid (∀ W', Kp wr W' → (W'.cell? ⟨b, o + m * 2, none⟩ = some (.int .i64 l[m].1) ∧ Kp wr W')) := hide fun W' h => ⟨h.cell c0, h⟩
          obtain ⟨A2, hif⟩ : ∃ A2, (if c = m + 1 then some (⟨b, o, none⟩ : Addr) else some ⟨b, o + (m + 1) * 2, none⟩) = A2 := ⟨_, rfl⟩
          have HC1 := hide (fun W (h : Kp wr W) => IH.out (l.take m) (.slice (some ⟨b, o, none⟩) m c) W (by simp; omega) (by omega) (((HR.out.kp hkp).kp h).takeS (by omega)))
          have HC2 := hide (fun W (h : Kp wr W) => IH.out (l.drop (m + 1)) (.slice A2 (l.length - (m + 1)) (c - (m + 1))) W (by simp; omega) (by omega) (((HR.out.kp hkp).kp h).dropS (by omega) rfl hif))
          have tn : ((m : Int) + 1).toNat = m + 1 := by omega
          have hw : IntKind.i64.wrap ((m : Int) + 1) = (m : Int) + 1 := IntWalk.i64_in _ (by omega)
          have K0 := Kp.refl wr
          go_wp2_with fail
          go_region_held3 (fun w' => w'.cell? ⟨b, o + m * 2, none⟩ = some (.int .i64 l[m].1) ∧ Kp wr w')
            ((go_split_ands; refine KS.out _ ?_; (focus ((repeat (first | (with_reducible assumption) | (with_reducible exact Kp.refl _) | (with_reducible apply Kp.drew) | (with_reducible apply Kp.drewN) | ((with_reducible apply Kp.setR); (focus (first | (with_reducible assumption) | (simp; done) | (simp; omega)))) | (with_reducible apply Kp.alloc) | ((with_reducible apply Kp.call); (with_reducible assumption)) | ((with_reducible apply Kp.app); (with_reducible assumption)))); done))))
            (first
              | (go_at_call 41; (with_reducible refine (HC1.out _ ?_).mono ?_); (go_split_ands; (focus ((repeat (first | (with_reducible assumption) | (with_reducible exact Kp.refl _) | (with_reducible apply Kp.drew) | (with_reducible apply Kp.drewN) | ((with_reducible apply Kp.setR); (focus (first | (with_reducible assumption) | (simp; done) | (simp; omega)))) | (with_reducible apply Kp.alloc) | ((with_reducible apply Kp.call); (with_reducible assumption)) | ((with_reducible apply Kp.app); (with_reducible assumption)))); done))); rintro e w1 ⟨v1, rfl, ht1, hb1⟩)
              | (go_at_call 41; (with_reducible refine (HC2.out _ ?_).mono ?_); (go_split_ands; (focus ((repeat (first | (with_reducible assumption) | (with_reducible exact Kp.refl _) | (with_reducible apply Kp.drew) | (with_reducible apply Kp.drewN) | ((with_reducible apply Kp.setR); (focus (first | (with_reducible assumption) | (simp; done) | (simp; omega)))) | (with_reducible apply Kp.alloc) | ((with_reducible apply Kp.call); (with_reducible assumption)) | ((with_reducible apply Kp.app); (with_reducible assumption)))); done))); rintro e w2 ⟨v2, rfl, ht2, hb2⟩))
          all_goals
            go_wp2
            go_ret
            refine ⟨some ⟨w2.heap.size, 0, none⟩, rfl, ?_, (hkp.trans (by go_split_ands; (focus ((repeat (first | (with_reducible assumption) | (with_reducible exact Kp.refl _) | (with_reducible apply Kp.drew) | (with_reducible apply Kp.drewN) | ((with_reducible apply Kp.setR); (focus (first | (with_reducible assumption) | (simp; done) | (simp; omega)))) | (with_reducible apply Kp.alloc) | ((with_reducible apply Kp.call); (with_reducible assumption)) | ((with_reducible apply Kp.app); (with_reducible assumption)))); done)))).bel⟩
            rw [heapTree_cons l hne'.out]
            have e := hm''.out
            subst e
            exact TR.mk (ht1.below hb2) ht2 _
end Go.Proofs.YtfgbbmjnjppfnaaDoor
