/-
  A variable that holds a slice which grows (OB): read, appended to. Conditions: none.
  plain.within, hedgref.Between, hedgref.MapRight, plain.Check: what they answer. Conditions: the list reads as l (RD).
  shape.part, shape.Of: what they answer. Conditions: the list reads as l (RD); of part: the variable holds a slice of the call's own (OB).
  shape.Of: what it answers. Conditions: the list reads as l (RD).
  grow.right: what it answers. Conditions: the list reads as l (RD).
  Rows that lie apart: what an append to one leaves of another. Conditions: none.
  The lesser and the other keys of a list, and a loop that parts them. No program. Conditions: none.
  grow.sorted, grow.Sort: what they answer. Conditions: the list reads as l (RD); of sorted: of at most 1000 keys.
  The spots of a tree that is written (grow.spots, vine.spots, ..), told: what they answer. Conditions: the tree as MR says; of spots: the variable holds a slice of the call's own (OB).
  grow.place, grow.put, grow.told: what they answer. Conditions: the tree that the link holds is written as MR says.
  grow.cut: what it answers. Conditions: the tree that the link holds is written as MR says.
-/
import Derived.Test.YtpkkajglbklboaaDoorG2
import Derived.Test.YtpkkajglbklboaaDoorG1
import Derived.Maps.OwnOps
import Derived.Maps.Views

namespace Go.Proofs.YtpkkajglbklboaaDoor
open Go.ChangeShapes Go.WideShapes Go.ChangeAt Go.RowKit
set_option linter.unusedVariables false
set_option linter.unusedSimpArgs false

/-- Only the row of v may have been written. Behind a name. -/
def KV (v : Value) (w w' : World) : Prop := Kf (fun i => v.ownBlock = some i) w w'
section
variable {v : Value} {w W W' : World}
theorem KV.refl (v : Value) (w : World) : KV v w w := Kf.refl _ _
theorem KV.size (h : KV v w W) : w.heap.size ≤ W.heap.size := Kf.size h
theorem KV.drew (h : KV v w W) : KV v w W.drew := Kf.on h (Kp.refl W).drew
theorem KV.drewN {n : Nat} (h : KV v w W) : KV v w (W.drewN n) := Kf.on h (Kp.refl W).drewN
theorem KV.alloc {o : Obj} (h : KV v w W) : KV v w (W.alloc o) := Kf.on h (Kp.refl W).alloc
theorem KV.app (hg : W.grownBy W' v.ownBlock) (h : KV v w W) : KV v w W' := Kf.app h hg fun _ hk => .inl hk
theorem KV.call (hb : Kp W W') (h : KV v w W) : KV v w W' := Kf.on h hb
theorem KV.cell {p : Addr} {u : Value} (h : KV v w W) (hn : v.ownBlock ≠ some p.block) (hc : w.cell? p = some u) : W.cell? p = some u := Kf.cell h hn hc
theorem KV.frozen {p : Addr} (h : KV v w W) (hp : p.block < w.heap.size) (hn : v.ownBlock ≠ some p.block) : W.frozen? p = w.frozen? p := Kf.frozen h hp hn
end
section
variable {α : Type} {w w3 : World} {B g : Nat} {st e : TypeId} {E : Enc α} {l l' : List α} {v v3 : Value}
theorem ob_app (hb : BC w g st [v]) (ho : OW w B e E v l) (hn : v.ownBlock ≠ some g) (k : KV v w w3) (ho3 : OW w3 B e E v3 l') (hat : v3.ownBlock = v.ownBlock ∨ Hi w.heap.size v3) :
    OB (w3.setCell ⟨g, 0, none⟩ v3) B g st e E l' ∧ KO g B w (w3.setCell ⟨g, 0, none⟩ v3) := by
  have hz := KV.size k
  have hlt := hb.lt
  have hn3 : v3.ownBlock ≠ some g := by
    rcases hat with h | h
    · rw [h]; exact hn
    · intro e; have := h g e; omega
  have hb3 : BC w3 g st [v] := hb.kf k hn
  refine ⟨⟨v3, hb3.set (j := 0) (u := v3), ho3.setCell hn3 v3, hn3⟩, v, v3, hb.cell 0, (hb3.set (j := 0) (u := v3)).cell 0, Kf.set (Kf.mono k fun i _ hi => .inr hi) (.inl (.inl rfl)), hat⟩
theorem RD.slice {β : Type} {E' : Enc β} {u : Value} {m : List β} (h : RD w E' u m) : ∃ A n c, u = .slice A n c := by
  obtain ⟨A, c, rfl, _⟩ := h
  exact ⟨A, _, c, rfl⟩
theorem KO.size {a b : World} (h : KO g B a b) : a.heap.size ≤ b.heap.size := by
  obtain ⟨v, v', h1, h2, h3, h4⟩ := h
  exact Kf.size h3
theorem RD.ko {β : Type} {E' : Enc β} {w' : World} {u : Value} {m : List β} (h : RD w E' u m) (ho : OB w B g st e E l) (hk : KO g B w w') (hu : 0 < m.length → Lo B u) (hg : B ≤ g) : RD w' E' u m := by
  obtain ⟨v, hb, hv, hn⟩ := ho
  obtain ⟨v1, v2, k1, k2, k3, k4⟩ := hk
  have e1 : some v1 = some v := k1.symm.trans (hb.cell 0)
  injection e1 with e1
  subst e1
  refine h.kf k3 fun h0 k hk hF => ?_
  have := hu h0 k hk
  rcases hF with rfl | hF
  · omega
  · have := (hv.lt k hF).1; omega
theorem OB.kp {w' : World} (h : OB w B g st e E l) (hk : Kp w w') : OB w' B g st e E l := by
  obtain ⟨v, hb, hv, hn⟩ := h
  exact ⟨v, hb.kp hk, hv.kp hk, hn⟩
theorem OB.new (w : World) (hB : B ≤ w.heap.size) : OB (w.alloc (.cells #[.slice none 0 0] st)) B w.heap.size st e E ([] : List α) :=
  ⟨.slice none 0 0, BC.new w st [.slice none 0 0], OW.nil, by simp [Value.ownBlock]⟩
theorem KO.on {a b c : World} (h : KO g B a b) (hk : Kp b c) : KO g B a c := by
  obtain ⟨v, v', h1, h2, h3, h4⟩ := h
  exact ⟨v, v', h1, hk.cell h2, h3.on hk, h4⟩
theorem KO.onL {a b c : World} (h : KO g B b c) (hk : Kp a b) (hg : g < a.heap.size) (ho : OB a B g st e E l) : KO g B a c := by
  obtain ⟨v0, hb, hv, hn⟩ := ho
  obtain ⟨v, v', h1, h2, h3, h4⟩ := h
  have e1 : some v = some v0 := h1.symm.trans (hk.cell (hb.cell 0))
  injection e1 with e1
  subst e1
  have hz := hk.size
  refine ⟨v, v', hb.cell 0, h2, (Kf.of (F := fun i => i = g ∨ v.ownBlock = some i) hk).trans h3 (fun i _ h => h), h4.imp id fun h => h.mono hz⟩
theorem OB.kp0 {a w' : World} (h : OB w B g st e E l) (hk : KO g B w w') (h0 : Kp a w) (hB : a.heap.size ≤ B) (hg : B ≤ g) : Kp a w' :=
  hk.kp h0 (by omega) fun v hv => by
    obtain ⟨u, hb, ho, _⟩ := h
    have e1 : some v = some u := hv.symm.trans (hb.cell 0)
    injection e1 with e1
    subst e1
    exact fun k hk => Nat.le_trans hB (ho.lt k hk).1
end
theorem BC.ko {α : Type} {w w' : World} {B g i : Nat} {st e t : TypeId} {E : Enc α} {l : List α} {cs : List Value} (h : BC w i t cs) (ho : OB w B g st e E l) (hk : KO g B w w') (h1 : st ≠ t) (h2 : e ≠ t) : BC w' i t cs := by
  obtain ⟨v, hb, hv, hn⟩ := ho
  obtain ⟨v1, v2, k1, k2, k3, k4⟩ := hk
  have e1 : some v1 = some v := k1.symm.trans (hb.cell 0)
  injection e1 with e1
  subst e1
  refine h.kf k3 fun hg => ?_
  rcases hg with rfl | hg
  · exact hb.ne h h1 rfl
  · exact hv.bc_ne h h2 hg
/-- What a call leaves that appends so much to the variable. -/
def WPost {α : Type} (B g : Nat) (st e : TypeId) (E : Enc α) (r : Value) (l : List α) (w : World) (en : Ending) (w' : World) : Prop := en = .returned r ∧ OB w' B g st e E l ∧ KO g B w w'
end Go.Proofs.YtpkkajglbklboaaDoor
namespace Go.Proofs.YtpkkajglbklboaaDoor
open Go.ChangeShapes Go.WideShapes Go.ChangeAt Go.RowKit
set_option linter.unusedVariables false
set_option linter.unusedSimpArgs false

def btw (n lo hi : Int) : Bool := decide (lo ≤ n ∧ n ≤ hi)
theorem btw_iff (n lo hi : Int) : btw n lo hi = true ↔ lo ≤ n ∧ n ≤ hi := by simp [btw]
theorem btw_f_iff (n lo hi : Int) : btw n lo hi = false ↔ ¬ (lo ≤ n ∧ n ≤ hi) := by simp [btw]
theorem btw_cases (n lo hi : Int) : (btw n lo hi = true ∧ lo ≤ n ∧ n ≤ hi) ∨ (btw n lo hi = false ∧ (n < lo ∨ hi < n)) := by
  by_cases h : lo ≤ n ∧ n ≤ hi
  · exact .inl ⟨(btw_iff _ _ _).2 h, h⟩
  · exact .inr ⟨(btw_f_iff _ _ _).2 h, by omega⟩

theorem between_any (n lo hi : Int) (w : World) :
    Calls Tryd.prog 16 #[.int .i64 n, .int .i64 lo, .int .i64 hi] w fun e w' => e = .returned (.bool (btw n lo hi)) ∧ w = w' := by
  by_cases h1 : lo ≤ n
  · by_cases h2 : n ≤ hi
    · go_enter Tryd.func16, Tryd.ntmps16
      go_wp2
      go_ret
      exact ⟨by simp [btw]; omega, rfl⟩
    · go_enter Tryd.func16, Tryd.ntmps16
      go_wp2
      go_ret
      exact ⟨by simp [btw]; omega, rfl⟩
  · go_enter Tryd.func16, Tryd.ntmps16
    go_wp2
    go_ret
    exact ⟨by simp [btw]; omega, rfl⟩
theorem between_to (n lo hi : Int) (b : Bool) (w : World) (h : btw n lo hi = b) :
    Calls Tryd.prog 16 #[.int .i64 n, .int .i64 lo, .int .i64 hi] w fun e w' => e = .returned (.bool b) ∧ w = w' := by
  have := between_any n lo hi w
  rwa [h] at this
theorem within_any (n lo hi : Int) (w : World) :
    Calls Tryd.prog 60 #[.int .i64 n, .int .i64 lo, .int .i64 hi] w fun e w' => e = .returned (.bool (btw n lo hi)) ∧ w = w' := by
  by_cases h1 : lo ≤ n
  · by_cases h2 : n ≤ hi
    · go_enter Tryd.func60, Tryd.ntmps60
      go_wp2
      go_ret
      exact ⟨by simp [btw]; omega, rfl⟩
    · go_enter Tryd.func60, Tryd.ntmps60
      go_wp2
      go_ret
      exact ⟨by simp [btw]; omega, rfl⟩
  · go_enter Tryd.func60, Tryd.ntmps60
    go_wp2
    go_ret
    exact ⟨by simp [btw]; omega, rfl⟩
theorem within_to (n lo hi : Int) (b : Bool) (w : World) (h : btw n lo hi = b) :
    Calls Tryd.prog 60 #[.int .i64 n, .int .i64 lo, .int .i64 hi] w fun e w' => e = .returned (.bool b) ∧ w = w' := by
  have := within_any n lo hi w
  rwa [h] at this
def mrFrom (last : Int) : List IP → Int
  | [] => 0
  | p :: t => if btw p.1 (last + 1) 1000000 then mrFrom p.1 t else 3
def mapRight (l : List IP) : Int := if l.length > 200 then 2 else mrFrom (-1) l
theorem mrFrom_drop (l : List IP) (k : Nat) (h : k < l.length) (last : Int) : mrFrom last (l.drop k) = if btw l[k].1 (last + 1) 1000000 then mrFrom l[k].1 (l.drop (k+1)) else 3 := by
  rw [List.drop_eq_getElem_cons h, mrFrom]
theorem mrFrom_end (l : List IP) (k : Nat) (h : ¬ k < l.length) (last : Int) : mrFrom last (l.drop k) = 0 := by
  rw [List.drop_of_length_le (by omega)]; rfl

def MRel (l : List IP) (w : World) (v i : Value) (wr : World) : Prop :=
  ∃ (k : Nat) (last : Int), k ≤ l.length ∧ i = .int .i64 k ∧ v = .int .i64 last ∧ -1 ≤ last ∧ last ≤ 1000000 ∧ mrFrom last (l.drop k) = mrFrom (-1) l ∧ Below w.heap.size w wr

theorem mapRight_len (l : List IP) (h : mapRight l = 0) : l.length ≤ 200 := by
  unfold mapRight at h
  split at h
  · omega
  · omega

def CRel (l : List IP) (w : World) (i : Value) (wr : World) : Prop :=
  ∃ (k : Nat) (last : Int), k ≤ l.length ∧ i = .int .i64 k ∧ -1 ≤ last ∧ last ≤ 1000000 ∧ (k = 0 → last = -1) ∧ (∀ h : k - 1 < l.length, 0 < k → last = l[k-1].1 ∧ 0 ≤ last) ∧ mrFrom last (l.drop k) = mrFrom (-1) l ∧ Below w.heap.size w wr

set_option maxHeartbeats 400000 in
theorem check_any (l : List IP) (v : Value) (w : World) (hr : RD w ePair v l) :
    Calls Tryd.prog 58 #[v] w (Ret (.int .i64 (mapRight l)) w) := by
  obtain ⟨A, c, rfl, hc, hm⟩ := hr.shape
  by_cases hlen : l.length > 200
  · go_enter Tryd.func58, Tryd.ntmps58
    go_wp2
    go_ret
    exact ⟨by simp [mapRight, hlen], Below.refl _ _⟩
  · have hres : Hid (mapRight l = mrFrom (-1) l) := hide (by simp [mapRight, hlen])
    have HR := hide hr
    clear hr
    go_enter Tryd.func58, Tryd.ntmps58
    go_wp2
    go_loopw [10] (CRel l w) (fun i wr => l.length - (intOf i).toNat)
    case atStart => exact ⟨0, -1, by omega, rfl, by omega, by omega, fun _ => rfl, fun _ h => by omega, rfl, Below.refl _ _⟩
    case round =>
      obtain ⟨k, last, hk, rfl, h1, h2, h3, h4, hmr, hbel⟩ := hrel
      have hmr' := hide hmr
      clear hmr
      have hz := hbel.size
      by_cases hlt : k < l.length
      · obtain ⟨b, o, rfl, hb, c0, c1⟩ := (HR.out.below hbel).pair hlt
        have hd := mrFrom_drop l k hlt last
        rcases btw_cases l[k].1 0 1000000 with ⟨hB, hb3, hb4⟩ | ⟨hB, hb3⟩
        · have hB' := hide hB
          clear hB
          by_cases hk0 : k = 0
          · have hl : last = -1 := h3 hk0
            have hd1 : btw l[k].1 (last + 1) 1000000 = true := (btw_iff _ _ _).2 ⟨by omega, hb4⟩
            rw [hd1, if_pos rfl] at hd
            have hd' := hide hd
            have hg : decide (0 < k) = false := by simp; omega
            have hl' := hide hl
            have hk0' := hide hk0
            clear hd hd1 h3 h4 hl hk0
            go_wp2_with fail
            go_quiet ((go_at_call 60; exact Calls.quiet_of_same ((within_to _ _ _ true _ hB'.out).mono fun _ _ h => ⟨h.1, h.2.symm⟩)))
            go_wp2
            go_roundw
            case rel => exact ⟨k+1, l[k].1, by omega, by go_num, by omega, by omega, fun h => by omega, fun _ _ => ⟨rfl, hb3⟩, by rw [← hd'.out, hmr'.out], (by repeat' (first | exact Below.refl _ _ | (with_reducible assumption) | apply Below.drew | apply below_drewN | apply Below.alloc | apply Below.setCell)
                                                                                                                                                                all_goals (first | omega | (simp; omega) | (simp; done)))⟩
            case measure => simp [intOf]; omega
          · obtain ⟨hl, hl0⟩ := h4 (by omega) (by omega)
            obtain ⟨b2, o2, e2, _, c2, _⟩ := (HR.out.below hbel).pair (k := k - 1) (by omega)
            injection e2 with e2
            injection e2 with e3 e4
            subst e3 e4
            have hg : decide (0 < k) = true := by simp; omega
            have hw1 : IntKind.i64.wrap ((k : Int) - 1) = (k : Int) - 1 := IntWalk.i64_in _ (by omega)
            have hw2 : (0 : Int) ≤ (k : Int) - 1 := by omega
            have hw3 : (k : Int) - 1 < (l.length : Int) := by omega
            have hw4 : ((k : Int) - 1).toNat = k - 1 := by omega
            by_cases hge : l[k].1 ≤ l[k-1].1
            · have hd1 : btw l[k].1 (last + 1) 1000000 = false := (btw_f_iff _ _ _).2 (by omega)
              rw [hd1, if_neg (by simp)] at hd
              have hd' := hide hd
              have hl' := hide hl
              clear hd hd1 h3 h4 hl hk0
              go_wp2_with fail
              go_quiet ((go_at_call 60; exact Calls.quiet_of_same ((within_to _ _ _ true _ hB'.out).mono fun _ _ h => ⟨h.1, h.2.symm⟩)))
              go_wp2
              go_ret
              exact ⟨by rw [hres.out, ← hmr'.out, hd'.out]; rfl, (by repeat' (first | exact Below.refl _ _ | (with_reducible assumption) | apply Below.drew | apply below_drewN | apply Below.alloc | apply Below.setCell)
                                                                     all_goals (first | omega | (simp; omega) | (simp; done)))⟩
            · have hd1 : btw l[k].1 (last + 1) 1000000 = true := (btw_iff _ _ _).2 ⟨by omega, hb4⟩
              rw [hd1, if_pos rfl] at hd
              have hd' := hide hd
              have hl' := hide hl
              clear hd hd1 h3 h4 hl hk0
              go_wp2_with fail
              go_quiet ((go_at_call 60; exact Calls.quiet_of_same ((within_to _ _ _ true _ hB'.out).mono fun _ _ h => ⟨h.1, h.2.symm⟩)))
              go_wp2
              go_roundw
              case rel => exact ⟨k+1, l[k].1, by omega, by go_num, by omega, by omega, fun h => by omega, fun _ _ => ⟨rfl, hb3⟩, by rw [← hd'.out, hmr'.out], (by repeat' (first | exact Below.refl _ _ | (with_reducible assumption) | apply Below.drew | apply below_drewN | apply Below.alloc | apply Below.setCell)
                                                                                                                                                                  all_goals (first | omega | (simp; omega) | (simp; done)))⟩
              case measure => simp [intOf]; omega
        · have hd1 : btw l[k].1 (last + 1) 1000000 = false := (btw_f_iff _ _ _).2 (by omega)
          rw [hd1, if_neg (by simp)] at hd
          have hd' := hide hd
          have hB' := hide hB
          clear hd hd1 h3 h4 hB hb3
          go_wp2_with fail
          go_quiet ((go_at_call 60; exact Calls.quiet_of_same ((within_to _ _ _ false _ hB'.out).mono fun _ _ h => ⟨h.1, h.2.symm⟩)))
          go_wp2
          go_ret
          exact ⟨by rw [hres.out, ← hmr'.out, hd'.out]; rfl, (by repeat' (first | exact Below.refl _ _ | (with_reducible assumption) | apply Below.drew | apply below_drewN | apply Below.alloc | apply Below.setCell)
                                                                 all_goals (first | omega | (simp; omega) | (simp; done)))⟩
      · go_wp2
        go_ret
        exact ⟨by rw [hres.out, ← hmr'.out, mrFrom_end _ _ hlt]; rfl, hbel⟩
end Go.Proofs.YtpkkajglbklboaaDoor
namespace Go.Proofs.YtpkkajglbklboaaDoor
open Go.ChangeShapes Go.WideShapes Go.ChangeAt Go.RowKit
set_option linter.unusedVariables false
set_option linter.unusedSimpArgs false

/-- How many at the head of the list are less. -/
def lessN (x : Int) : List Int → Nat
  | [] => 0
  | y :: t => if y < x then lessN x t + 1 else 0
theorem lessN_le (x : Int) : ∀ l : List Int, lessN x l ≤ l.length
  | [] => Nat.le_refl _
  | y :: t => by
    unfold lessN
    have := lessN_le x t
    split <;> simp <;> omega
theorem lessN_lt (x : Int) : ∀ (l : List Int) (j : Nat) (h : j < l.length), j < lessN x l → l[j] < x
  | y :: t, 0, _, h => by
    unfold lessN at h
    split at h
    · assumption
    · omega
  | y :: t, j + 1, hj, h => by
    unfold lessN at h
    split at h
    · exact lessN_lt x t j (by simpa using hj) (by omega)
    · omega
theorem lessN_at (x : Int) : ∀ (l : List Int) (h : lessN x l < l.length), ¬ l[lessN x l] < x
  | y :: t, h => by
    by_cases hy : y < x
    · have e : lessN x (y :: t) = lessN x t + 1 := by rw [lessN, if_pos hy]
      simp only [e] at h ⊢
      simpa using lessN_at x t (by simpa using h)
    · have e : lessN x (y :: t) = 0 := by rw [lessN, if_neg hy]
      simp only [e]
      simpa using hy
theorem lessN_is (x : Int) (l : List Int) (k : Nat) (hk : k ≤ l.length) (h1 : ∀ j (h : j < l.length), j < k → l[j] < x) (h2 : ∀ h : k < l.length, ¬ l[k] < x) : lessN x l = k := by
  rcases Nat.lt_trichotomy (lessN x l) k with h | h | h
  · exact absurd (h1 _ (by omega) h) (lessN_at x l (by omega))
  · exact h
  · exact absurd (lessN_lt x l k (by have := lessN_le x l; omega) h) (h2 (by have := lessN_le x l; omega))
def partF : Nat → List Int → Int → Bool × List IP
  | 0, _, _ => (true, [])
  | _ + 1, [], _ => (true, [])
  | n + 1, x :: t, d =>
    if (t.drop (lessN x t)).any (fun k => decide (k ≤ x)) then (false, [])
    else if (partF n (t.take (lessN x t)) (d + 1)).1 = false then (false, (partF n (t.take (lessN x t)) (d + 1)).2)
    else ((partF n (t.drop (lessN x t)) (d + 1)).1, (partF n (t.take (lessN x t)) (d + 1)).2 ++ [(x, d)] ++ (partF n (t.drop (lessN x t)) (d + 1)).2)
theorem partF_len : ∀ (n : Nat) (l : List Int) (d : Int), (partF n l d).2.length ≤ l.length
  | 0, _, _ => by simp [partF]
  | n + 1, [], _ => by simp [partF]
  | n + 1, x :: t, d => by
    have h0 := lessN_le x t
    have h1 := partF_len n (t.take (lessN x t)) (d + 1)
    have h2 := partF_len n (t.drop (lessN x t)) (d + 1)
    simp only [List.length_take, List.length_drop] at h1 h2
    unfold partF
    split
    · simp
    · split
      · simp; omega
      · simp; omega
theorem take_at_eq (l : List Int) (k : Nat) (h : k ≤ l.length) (hk : 1 ≤ k) : (l.take k).drop 1 = (l.drop 1).take (k - 1) := by
  rw [List.drop_take]
theorem any_drop_false (x : Int) (t : List Int) (n : Nat) (h : ∀ j (hj : j < t.length), n ≤ j → ¬ t[j] ≤ x) : (t.drop n).any (fun k => decide (k ≤ x)) = false := by
  rw [List.any_eq_false]
  intro y hy
  obtain ⟨j, hj, rfl⟩ := List.getElem_of_mem hy
  rw [List.getElem_drop]
  simp at hj
  have := h (n + j) (by omega) (by omega)
  simpa using this
theorem any_drop_true (x : Int) (t : List Int) (n j : Nat) (hj : j < t.length) (hn : n ≤ j) (h : t[j] ≤ x) : (t.drop n).any (fun k => decide (k ≤ x)) = true := by
  rw [List.any_eq_true]
  refine ⟨t[j], ?_, by simpa using h⟩
  rw [List.mem_drop_iff_getElem]
  exact ⟨j - n, by omega, by simp [show n + (j - n) = j from by omega]⟩

theorem partF_l (n : Nat) (l : List Int) (x : Int) (t : List Int) (d : Int) (hl : l = x :: t) (k : Nat) (hk : 1 ≤ k) (hln : lessN x t = k - 1) :
    partF (n + 1) l d = if (l.drop k).any (fun k => decide (k ≤ x)) then (false, []) else if (partF n ((l.take k).drop 1) (d + 1)).1 = false then (false, (partF n ((l.take k).drop 1) (d + 1)).2)
      else ((partF n (l.drop k) (d + 1)).1, (partF n ((l.take k).drop 1) (d + 1)).2 ++ [(x, d)] ++ (partF n (l.drop k) (d + 1)).2) := by
  subst hl
  obtain ⟨k, rfl⟩ : ∃ k', k = k' + 1 := ⟨k - 1, by omega⟩
  rw [partF, hln]
  simp

theorem lo_cut {B b o o2 n c : Nat} {A : Option Addr} {n' c' : Nat} (h : Lo B (.slice (some ⟨b, o, none⟩) n c)) (hA : ∀ ad, A = some ad → ad.block = b) : Lo B (.slice A n' c') := fun k hk => by
  cases A with
  | none => simp [Value.ownBlock] at hk
  | some ad =>
    have := hA ad rfl
    simp [Value.ownBlock] at hk
    subst hk
    exact h _ (by simp [Value.ownBlock, this])
theorem if_blk {p : Prop} [Decidable p] {b o o2 : Nat} {A : Option Addr} (h : (if p then some (⟨b, o, none⟩ : Addr) else some ⟨b, o2, none⟩) = A) : ∀ ad, A = some ad → ad.block = b := by
  intro ad e
  subst e
  split at h <;> (injection h with h; rw [← h])
def PaPost (B g : Nat) (st e : TypeId) (r : Bool × List IP) (acc : List IP) (w : World) (en : Ending) (w' : World) : Prop := en = .returned (.bool r.1) ∧ OB w' B g st e ePair (acc ++ r.2) ∧ KO g B w w'
def Pa1 (l : List Int) (x : Int) (w : World) (nv : Value) (wr : World) : Prop := ∃ k : Nat, 1 ≤ k ∧ k ≤ l.length ∧ nv = .int .i64 k ∧ (∀ j (h : j < l.length), 1 ≤ j → j < k → l[j] < x) ∧ Kp w wr
def Pa2 (l : List Int) (x : Int) (n : Nat) (w : World) (iv : Value) (wr : World) : Prop := ∃ k : Nat, k ≤ l.length - n ∧ iv = .int .i64 k ∧ (∀ j (h : j < l.length), n ≤ j → j < n + k → ¬ l[j] ≤ x) ∧ Kp w wr

end Go.Proofs.YtpkkajglbklboaaDoor
namespace Go.Proofs.YtpkkajglbklboaaDoor
open Go.ChangeShapes Go.WideShapes Go.ChangeAt Go.RowKit
set_option linter.unusedVariables false
set_option linter.unusedSimpArgs false

def keysIn (l : List Int) : Prop := ∀ k ∈ l, 0 ≤ k ∧ k ≤ 1000000
instance (l : List Int) : Decidable (keysIn l) := by unfold keysIn; infer_instance
def shapeOf (l : List Int) : List IP × Int := if l.length > 200 then ([], 2) else if ¬ keysIn l then ([], 3) else if (partF l.length l 0).1 = false then ([], 3) else ((partF l.length l 0).2, 0)
def KiRel (l : List Int) (w : World) (iv : Value) (wr : World) : Prop := ∃ k : Nat, k ≤ l.length ∧ iv = .int .i64 k ∧ (∀ j (h : j < l.length), j < k → 0 ≤ l[j] ∧ l[j] ≤ 1000000) ∧ w = wr
theorem KO.none {g B : Nat} {w w' a : World} (h : KO g B w w') (hk : Kp a w) (hg : a.heap.size ≤ g) (hv : w.cell? ⟨g, 0, none⟩ = some (.slice none 0 0)) : Kp a w' :=
  h.kp hk hg fun v h1 => by
    rw [hv] at h1
    injection h1 with h1
    subst h1
    intro k hk
    simp [Value.ownBlock] at hk

end Go.Proofs.YtpkkajglbklboaaDoor
namespace Go.Proofs.YtpkkajglbklboaaDoor
open Go.ChangeShapes Go.WideShapes Go.ChangeAt Go.RowKit Go.Maps
set_option linter.unusedVariables false
set_option linter.unusedSimpArgs false

def rightG (l : List Int) : Int := if l.length > 200 then 2 else if ¬ keysIn l then 3 else if ¬ l.Nodup then 5 else 0
def seenD (l : List Int) : DataW Unit := l.foldl (fun D x => D.put (.int .i64 x) (.lit (.int .i64 1))) (.map [])
theorem seenD_snoc (l : List Int) (x : Int) : seenD (l ++ [x]) = (seenD l).put (.int .i64 x) (.lit (.int .i64 1)) := by rw [seenD, List.foldl_append]; rfl
theorem seenD_map (l : List Int) : IsMap (seenD l) := by
  have : ∀ (l : List Int) (D : DataW Unit), IsMap D → IsMap (l.foldl (fun D x => D.put (.int .i64 x) (.lit (.int .i64 1))) D) := by
    intro l
    induction l with
    | nil => intro D h; exact h
    | cons x t ih => intro D h; exact ih _ (h.put _ _)
  exact this l _ ⟨[], rfl⟩
theorem seenD_at (l : List Int) (y : Int) : (seenD l).atKey (.int .i64 y) (.lit (.int .i64 0)) = .lit (.int .i64 (if y ∈ l then 1 else 0)) := by
  induction hn : l.length generalizing l with
  | zero =>
    obtain rfl : l = [] := List.eq_nil_of_length_eq_zero hn
    rfl
  | succ n ih =>
    obtain ⟨u, x, rfl⟩ : ∃ u x, l = u ++ [x] := ⟨l.take n, l[n]'(by omega), by rw [← List.take_succ_eq_append_getElem, List.take_of_length_le (by omega)]⟩
    rw [seenD_snoc]
    by_cases hxy : y = x
    · subst hxy
      rw [atKey_put_same (seenD_map u) (show WideAt.IsKeyLit (.int .i64 y) from trivial)]; simp
    · rw [atKey_put_other (by intro e; injection e with _ e; exact hxy e), ih u (by simpa using hn)]
      simp [hxy]
theorem wf_in {n : Int} (h : -9223372036854775808 ≤ n ∧ n ≤ 9223372036854775807) : (Lit.int .i64 n).wf = true := by
  simp [Lit.wf, IntKind.min, IntKind.max, IntKind.signed, IntKind.bits]
  omega
def GrRel (l : List Int) (w : World) (m : Value) (iv : Value) (wr : World) : Prop := ∃ k : Nat, k ≤ l.length ∧ iv = .int .i64 k ∧ wr.ownsMap Tryd.prog 3 (plainElem (H := Unit) Tryd.prog 3) w.heap.size k (seenD (l.take k)) ∧ (l.take k).Nodup ∧ Kp w wr
end Go.Proofs.YtpkkajglbklboaaDoor
namespace Go.Proofs.YtpkkajglbklboaaDoor
open Go.ChangeShapes Go.WideShapes Go.ChangeAt Go.RowKit
set_option linter.unusedVariables false
set_option linter.unusedSimpArgs false

def Ap (n : Nat) (u v : Value) : Prop := 0 < n → u.ownBlock = none ∨ u.ownBlock ≠ v.ownBlock
theorem RD.app {α : Type} {E : Enc α} {w w' : World} {v u : Value} {l : List α} (h : RD w E v l) (hg : w.grownBy w' u.ownBlock) (ha : Ap l.length v u) : RD w' E v l := by
  cases l with
  | nil =>
    obtain ⟨A, c, rfl, h1, h2, hn, h3⟩ := h
    exact ⟨A, c, rfl, h1, h2, hn, fun h => by simp at h⟩
  | cons a t =>
    have h4 := ha (by simp)
    obtain ⟨A, c, rfl, h1, h2, hn, h3⟩ := h
    obtain ⟨b, o, rfl, hb, hc⟩ := h3 (by simp)
    refine RD.grownR hg ?_ ⟨_, c, rfl, h1, h2, hn, h3⟩
    rcases h4 with h4 | h4
    · simp [Value.ownBlock] at h4
    · exact h4
theorem Ap.next {n : Nat} {w : World} {v u u' : Value} (h : Ap n v u) (hu : u'.ownBlock = u.ownBlock ∨ u'.ownBlock = some w.heap.size) (hv : 0 < n → Lo w.heap.size v) : Ap n v u' := fun h0 => by
  rcases hu with hu | hu
  · rw [hu]; exact h h0
  · rw [hu]
    cases hb : v.ownBlock with
    | none => exact .inl rfl
    | some k =>
      refine .inr fun e => ?_
      injection e with e
      have := hv h0 k hb
      omega

/-- Rows that lie apart. -/
def Dis (u v : Value) : Prop := ∀ k, u.ownBlock = some k → v.ownBlock ≠ some k
theorem Dis.symm {u v : Value} (h : Dis u v) : Dis v u := fun k h1 h2 => h k h2 h1
theorem Dis.or {u v : Value} (h : Dis u v) : u.ownBlock = none ∨ u.ownBlock ≠ v.ownBlock := by
  cases hu : u.ownBlock with
  | none => exact .inl rfl
  | some k => exact .inr fun e => h k hu e.symm
theorem Dis.next {u u' v : Value} {n : Nat} (h : Dis u v) (hu : u'.ownBlock = u.ownBlock ∨ u'.ownBlock = some n) (hv : Lo n v) : Dis u' v := fun k h1 h2 => by
  rcases hu with e | e
  · exact h k (by rw [← e]; exact h1) h2
  · rw [e] at h1
    injection h1 with h1
    have := hv k h2
    omega
end Go.Proofs.YtpkkajglbklboaaDoor
namespace Go.Proofs.YtpkkajglbklboaaDoor
open Go.ChangeShapes Go.WideShapes Go.ChangeAt Go.RowKit
set_option linter.unusedVariables false
set_option linter.unusedSimpArgs false

def lessL (x : Int) (l : List Int) : List Int := l.filter fun k => decide (k < x)
def moreL (x : Int) (l : List Int) : List Int := l.filter fun k => !decide (k < x)
theorem lessL_len (x : Int) (l : List Int) : (lessL x l).length ≤ l.length := List.length_filter_le _ _
theorem moreL_len (x : Int) (l : List Int) : (moreL x l).length ≤ l.length := List.length_filter_le _ _
theorem parts_len (x : Int) : ∀ l : List Int, (lessL x l).length + (moreL x l).length = l.length
  | [] => rfl
  | y :: t => by
    have := parts_len x t
    unfold lessL moreL at this ⊢
    by_cases h : y < x <;> simp [List.filter_cons, h] <;> omega
theorem lessL_snoc (x : Int) (l : List Int) (k : Nat) (h : k < l.length) : lessL x (l.take (k + 1)) = lessL x (l.take k) ++ if l[k] < x then [l[k]] else [] := by
  rw [List.take_succ_eq_append_getElem h, lessL, lessL, List.filter_append]
  congr 1
  by_cases hd : l[k] < x <;> simp [hd]
theorem moreL_snoc (x : Int) (l : List Int) (k : Nat) (h : k < l.length) : moreL x (l.take (k + 1)) = moreL x (l.take k) ++ if l[k] < x then [] else [l[k]] := by
  rw [List.take_succ_eq_append_getElem h, moreL, moreL, List.filter_append]
  congr 1
  by_cases hd : l[k] < x <;> simp [hd]
def SoRel (x : Int) (t : List Int) (w : World) (lv mv iv : Value) (wr : World) : Prop :=
  ∃ k : Nat, k ≤ t.length ∧ iv = .int .i64 k ∧ OW wr w.heap.size 3 eInt lv (lessL x (t.take k)) ∧ OW wr w.heap.size 3 eInt mv (moreL x (t.take k)) ∧ Dis lv mv ∧ Kp w wr
end Go.Proofs.YtpkkajglbklboaaDoor
namespace Go.Proofs.YtpkkajglbklboaaDoor
open Go.ChangeShapes Go.WideShapes Go.ChangeAt Go.RowKit
set_option linter.unusedVariables false
set_option linter.unusedSimpArgs false

def sortF : Nat → List Int → List Int × Int
  | 0, l => (l, 0)
  | _ + 1, [] => ([], 0)
  | _ + 1, [x] => ([x], 0)
  | n + 1, x :: y :: t => ((sortF n (lessL x (y :: t))).1 ++ [x] ++ (sortF n (moreL x (y :: t))).1, (sortF n (lessL x (y :: t))).2 + (sortF n (moreL x (y :: t))).2 + ((x :: y :: t).length : Int) - 1)
theorem sortF_one (n : Nat) (l : List Int) (h : l.length < 2) : sortF n l = (l, 0) := by
  match n, l, h with
  | 0, _, _ => rfl
  | _ + 1, [], _ => rfl
  | _ + 1, [x], _ => rfl
theorem sortF_more (n : Nat) (x : Int) (t : List Int) (h : 0 < t.length) : sortF (n + 1) (x :: t) = ((sortF n (lessL x t)).1 ++ [x] ++ (sortF n (moreL x t)).1, (sortF n (lessL x t)).2 + (sortF n (moreL x t)).2 + ((x :: t).length : Int) - 1) := by
  match t, h with
  | y :: t, _ => rfl
theorem sortF_len : ∀ (n : Nat) (l : List Int), (sortF n l).1.length = l.length
  | 0, _ => rfl
  | _ + 1, [] => rfl
  | _ + 1, [x] => rfl
  | n + 1, x :: y :: t => by
    have := parts_len x (y :: t)
    simp only [sortF, List.length_append, sortF_len n, List.length_cons, List.length_nil] at this ⊢
    omega
theorem sortF_cnt : ∀ (n : Nat) (l : List Int), l.length ≤ 1000 → 0 ≤ (sortF n l).2 ∧ (sortF n l).2 ≤ 1000 * (l.length : Int)
  | 0, l, _ => by simp only [sortF]; omega
  | _ + 1, [], _ => by simp [sortF]
  | _ + 1, [x], _ => by simp [sortF]
  | n + 1, x :: y :: t, h => by
    have := parts_len x (y :: t)
    have h1 := sortF_cnt n (lessL x (y :: t)) (by simp only [List.length_cons] at h this; omega)
    have h2 := sortF_cnt n (moreL x (y :: t)) (by simp only [List.length_cons] at h this; omega)
    simp only [sortF, List.length_cons] at h this h1 h2 ⊢
    omega
def SortPost (r : List Int × Int) (w : World) (e : Ending) (w' : World) : Prop := ∃ v, e = .returned (.tuple #[v, .int .i64 r.2]) ∧ OW w' w.heap.size 3 eInt v r.1 ∧ Below w.heap.size w w'
end Go.Proofs.YtpkkajglbklboaaDoor
namespace Go.Proofs.YtpkkajglbklboaaDoor
open Go.ChangeShapes Go.WideShapes Go.ChangeAt Go.RowKit
set_option linter.unusedVariables false
set_option linter.unusedSimpArgs false

def MT.spotsBy {α : Type} (key : α → Int) : MT α → Int → List IP
  | .nil, _ => []
  | .node a l r, d => l.spotsBy key (d + 1) ++ [(key a, d)] ++ r.spotsBy key (d + 1)
theorem MT.spotsBy_len {α : Type} (key : α → Int) : ∀ (t : MT α) (d : Int), (t.spotsBy key d).length = t.size
  | .nil, _ => rfl
  | .node a l r, d => by simp [spotsBy, size, spotsBy_len key l, spotsBy_len key r]; omega
end Go.Proofs.YtpkkajglbklboaaDoor
namespace Go.Proofs.YtpkkajglbklboaaDoor
open Go.ChangeShapes Go.WideShapes Go.ChangeAt Go.RowKit
set_option linter.unusedVariables false
set_option linter.unusedSimpArgs false

theorem MR.uniq {α : Type} {E : Enc α} {nt : TypeId} {w : World} : ∀ {t t' : MT α} {p : Option Addr} {F F' : List Nat}, MR w nt E t p F → MR w nt E t' p F' → t.size = t'.size
  | .nil, .nil, _, _, _, _, _ => rfl
  | .nil, .node _ _ _, p, F, F', ⟨h, _⟩, ⟨b, _, _, _, _, h', _⟩ => by rw [h] at h'; cases h'
  | .node _ _ _, .nil, p, F, F', ⟨b, _, _, _, _, h', _⟩, ⟨h, _⟩ => by rw [h] at h'; cases h'
  | .node a l r, .node a' l' r', p, F, F', ⟨b, pl, pr, Fl, Fr, h1, _, h2, _, _, _, hl, hr⟩, ⟨b', pl', pr', Fl', Fr', h1', _, h2', _, _, _, hl', hr'⟩ => by
    rw [h1] at h1'
    injection h1' with h1'
    injection h1' with h1'
    subst h1'
    unfold BC at h2 h2'
    rw [h2] at h2'
    injection h2' with h2'
    injection h2' with h3
    have h4 : nodeC E a pl pr = nodeC E a' pl' pr' := by simpa using congrArg Array.toList h3
    unfold nodeC at h4
    have h5 := (List.append_inj h4 (by rw [E.len, E.len])).2
    simp at h5
    obtain ⟨rfl, rfl⟩ := h5
    simp only [MT.size]
    rw [MR.uniq hl hl', MR.uniq hr hr']
/-- The size of the tree that a link holds. -/
noncomputable def szAt {α : Type} (nt : TypeId) (E : Enc α) (v : Value) (w : World) : Nat := by
  classical
  exact if h : ∃ (q : Addr) (t : MT α) (p : Option Addr) (F : List Nat), v = .pointer (some q) ∧ w.cell? q = some (.pointer p) ∧ MR w nt E t p F then h.choose_spec.choose.size else 0
theorem szAt_eq {α : Type} {E : Enc α} {nt : TypeId} {w : World} {q : Addr} {t : MT α} {p : Option Addr} {F : List Nat} (hc : w.cell? q = some (.pointer p)) (hm : MR w nt E t p F) : szAt nt E (.pointer (some q)) w = t.size := by
  unfold szAt
  have h : ∃ (q' : Addr) (t : MT α) (p : Option Addr) (F : List Nat), Value.pointer (some q) = .pointer (some q') ∧ w.cell? q' = some (.pointer p) ∧ MR w nt E t p F := ⟨q, t, p, F, rfl, hc, hm⟩
  rw [dif_pos h]
  obtain ⟨p', F', h1, h2, h3⟩ := h.choose_spec.choose_spec
  generalize h.choose_spec.choose = t' at h3
  generalize h.choose = q' at h1 h2
  injection h1 with h1
  injection h1 with h1
  subst h1
  rw [hc] at h2
  injection h2 with h2
  injection h2 with h2
  subst h2
  exact (MR.uniq hm h3).symm

/-- The way goes by a key. -/
def Dir {α : Type} (kf : α → Int) (C : List (Fm α)) (key : Int) : Prop := ∀ f ∈ C, (f.left = true → key < kf f.a) ∧ (f.left = false → kf f.a < key)
theorem Dir.nil {α : Type} {kf : α → Int} {key : Int} : Dir kf [] key := fun f hf => by cases hf
theorem Dir.cons {α : Type} {kf : α → Int} {C : List (Fm α)} {key : Int} {f : Fm α} (h : Dir kf C key) (hf : (f.left = true → key < kf f.a) ∧ (f.left = false → kf f.a < key)) : Dir kf (f :: C) key := fun x hx => by
  rcases List.mem_cons.1 hx with rfl | hx
  · exact hf
  · exact h x hx
/-- Where the way of a link stands. -/
structure At_ {α : Type} (w : World) (nt : TypeId) (E : Enc α) (kf : α → Int) (r0 : Addr) (T : MT α) (F : List Nat) (key : Int) (C : List (Fm α)) (q : Addr) (t : MT α) (p : Option Addr) (Fc Ft : List Nat) : Prop where
  zp : ZP w nt E r0 C q Fc
  cell : w.cell? q = some (.pointer p)
  fz : w.frozen? q = false
  mr : MR w nt E t p Ft
  dis : ∀ x ∈ Ft, x ∉ Fc
  eq : T = plug C t
  dir : Dir kf C key
  sub : ∀ x, x ∈ Ft ∨ x ∈ Fc → x ∈ F
theorem At_.start {α : Type} {w : World} {nt : TypeId} {E : Enc α} {kf : α → Int} {r0 : Addr} {T : MT α} {F : List Nat} {p : Option Addr} (key : Int) (hc : w.cell? r0 = some (.pointer p)) (hf : w.frozen? r0 = false) (hm : MR w nt E T p F) :
    At_ w nt E kf r0 T F key [] r0 T p [] F := ⟨ZP.nil, hc, hf, hm, by simp, rfl, Dir.nil, fun x hx => by simpa using hx⟩
theorem At_.down {α : Type} {w : World} {nt : TypeId} {E : Enc α} {kf : α → Int} {r0 : Addr} {T : MT α} {F : List Nat} {key : Int} {C : List (Fm α)} {q : Addr} {a : α} {l r : MT α} {b : Nat} {pl pr : Option Addr} {Fc Fl Fr : List Nat}
    (h : At_ w nt E kf r0 T F key C q (.node a l r) (some ⟨b, 0, none⟩) Fc (b :: (Fl ++ Fr))) (hb : BC w b nt (nodeC E a pl pr)) (h1 : b ∉ Fl) (h2 : b ∉ Fr) (h3 : ∀ x ∈ Fl, x ∉ Fr) (hl : MR w nt E l pl Fl) (hr : MR w nt E r pr Fr) :
    (key < kf a → At_ w nt E kf r0 T F key (⟨a, true, r⟩ :: C) ⟨b, E.size, none⟩ l pl (b :: (Fr ++ Fc)) Fl) ∧ (kf a < key → At_ w nt E kf r0 T F key (⟨a, false, l⟩ :: C) ⟨b, E.size + 1, none⟩ r pr (b :: (Fl ++ Fc)) Fr) := by
  have hbc : b ∉ Fc := h.dis b (by simp)
  have hlc : ∀ x ∈ Fl, x ∉ Fc := fun x hx => h.dis x (by simp [hx])
  have hrc : ∀ x ∈ Fr, x ∉ Fc := fun x hx => h.dis x (by simp [hx])
  refine ⟨fun hk => ⟨?_, ?_, hb.frozen _, hl, ?_, by rw [h.eq]; rfl, h.dir.cons ⟨fun _ => hk, fun h => by simp at h⟩, ?_⟩, fun hk => ⟨?_, ?_, hb.frozen _, hr, ?_, by rw [h.eq]; rfl, h.dir.cons ⟨fun h => by simp at h, fun _ => hk⟩, ?_⟩⟩
  · exact h.zp.push h.cell hb hl hr h1 h2 hbc hlc hrc true
  · exact hb.link true
  · intro x hx hx'
    rcases List.mem_cons.1 hx' with rfl | hx'
    · exact h1 hx
    · rcases List.mem_append.1 hx' with hx' | hx'
      · exact h3 x hx hx'
      · exact hlc x hx hx'
  · intro x hx
    refine h.sub x ?_
    simp only [List.mem_cons, List.mem_append] at hx ⊢
    rcases hx with hx | hx | hx | hx
    · exact .inl (.inr (.inl hx))
    · exact .inl (.inl hx)
    · exact .inl (.inr (.inr hx))
    · exact .inr hx
  · exact h.zp.push h.cell hb hl hr h1 h2 hbc hlc hrc false
  · exact hb.link false
  · intro x hx hx'
    rcases List.mem_cons.1 hx' with rfl | hx'
    · exact h2 hx
    · rcases List.mem_append.1 hx' with hx' | hx'
      · exact h3 x hx' hx
      · exact hrc x hx hx'
  · intro x hx
    refine h.sub x ?_
    simp only [List.mem_cons, List.mem_append] at hx ⊢
    rcases hx with hx | hx | hx | hx
    · exact .inl (.inr (.inr hx))
    · exact .inl (.inl hx)
    · exact .inl (.inr (.inl hx))
    · exact .inr hx

def PlRel (w : World) (r0 : Addr) (T : MT IP) (F : List Nat) (key : Int) (nt : TypeId) (qv : Value) (wr : World) : Prop :=
  ∃ C q t p Fc Ft, qv = .pointer (some q) ∧ At_ w nt ePair Prod.fst r0 T F key C q t p Fc Ft ∧ w = wr
def PlPost (w : World) (r0 : Addr) (T : MT IP) (F : List Nat) (key : Int) (nt : TypeId) (e : Ending) (w' : World) : Prop :=
  ∃ C q t p Fc Ft, e = .returned (.pointer (some q)) ∧ At_ w nt ePair Prod.fst r0 T F key C q t p Fc Ft ∧ (∀ a l r, t = .node a l r → a.1 = key) ∧ w = w'

/-! Put: a new leaf where the way ends. -/
def ins : MT IP → IP → MT IP
  | .nil, p => .node p .nil .nil
  | .node a l r, p => if p.1 < a.1 then .node a (ins l p) r else if a.1 < p.1 then .node a l (ins r p) else .node a l r
theorem ins_on {f : Fm IP} {p : IP} (h : (f.left = true → p.1 < f.a.1) ∧ (f.left = false → f.a.1 < p.1)) (t : MT IP) : ins (f.on t) p = f.on (ins t p) := by
  obtain ⟨a, left, o⟩ := f
  cases left with
  | true => simp [Fm.on, ins, h.1 rfl]
  | false =>
    have := h.2 rfl
    simp only at this
    simp [Fm.on, ins, this, show ¬ p.1 < a.1 by omega]
theorem ins_plug {p : IP} : ∀ (C : List (Fm IP)) (t : MT IP), Dir Prod.fst C p.1 → ins (plug C t) p = plug C (ins t p)
  | [], _, _ => rfl
  | f :: C, t, h => by
    have h1 := ins_plug C (f.on t) (fun x hx => h x (by simp [hx]))
    rw [plug, h1, ins_on (h f (by simp)), plug]
/-- What a call leaves that changes the tree of a link. -/
def TPost {α : Type} (nt : TypeId) (E : Enc α) (r0 : Addr) (T' : MT α) (F : List Nat) (w : World) (e : Ending) (w' : World) : Prop :=
  ∃ p F', e = .returned (.tuple #[]) ∧ w'.cell? r0 = some (.pointer p) ∧ MR w' nt E T' p F' ∧ (∀ x ∈ F', x ∈ F ∨ w.heap.size ≤ x) ∧ w'.frozen? r0 = false ∧ Kf (fun i => i = r0.block ∨ i ∈ F) w w'
theorem ZP.blk {α : Type} {w : World} {nt : TypeId} {E : Enc α} {r0 q : Addr} {C : List (Fm α)} {F : List Nat} (h : ZP w nt E r0 C q F) {F0 : List Nat} (hs : ∀ x ∈ F, x ∈ F0) : q.block = r0.block ∨ q.block ∈ F0 := by
  rcases h.at_ with rfl | h
  · exact .inl rfl
  · exact .inr (hs _ h)
/-- The store into a link makes the tree anew. -/
theorem At_.put {α : Type} {w w1 : World} {nt : TypeId} {E : Enc α} {kf : α → Int} {r0 : Addr} {T : MT α} {F : List Nat} {key : Int} {C : List (Fm α)} {q : Addr} {t : MT α} {p : Option Addr} {Fc Ft : List Nat} (h : At_ w nt E kf r0 T F key C q t p Fc Ft)
    (hr : r0.block ∉ F) (hk : Kp w w1) (hrl : r0.block < w.heap.size) (hfr : w.frozen? r0 = false) {t' : MT α} {p' : Option Addr} {Ft' : List Nat} (hm : MR w1 nt E t' p' Ft') (hd : ∀ x ∈ Ft', x ∉ Fc) (hq : q.block ∉ Ft') (hn : ∀ x ∈ Ft', x ∈ F ∨ w.heap.size ≤ x) :
    ∃ p0 F0, (w1.setCell q (.pointer p')).cell? r0 = some (.pointer p0) ∧ MR (w1.setCell q (.pointer p')) nt E (plug C t') p0 F0 ∧ (∀ x ∈ F0, x ∈ F ∨ w.heap.size ≤ x) ∧ (w1.setCell q (.pointer p')).frozen? r0 = false ∧ Kf (fun i => i = r0.block ∨ i ∈ F) w (w1.setCell q (.pointer p')) := by
  have hfc : r0.block ∉ Fc := fun hx => hr (h.sub _ (.inr hx))
  have hz1 := (h.zp.kp hk hrl).store hfc p'
  have hqc : (w1.setCell q (.pointer p')).cell? q = some (.pointer p') := World.cell?_setCell_same' w1 q _ (by rw [hk.cell h.cell]; rfl)
  obtain ⟨p0, F0, g1, g2, g3⟩ := hz1.close hqc (hm.set hq) hd
  refine ⟨p0, F0, g1, g2, fun x hx => ?_, ?_, ?_⟩
  · rcases (g3 x).1 hx with hx | hx
    · exact hn x hx
    · exact .inl (h.sub x (.inr hx))
  · rw [World.frozen?_setCell, hk.frozen hrl]; exact hfr
  · exact (Kf.of hk).set (.inl (h.zp.blk fun x hx => h.sub x (.inr hx)))
end Go.Proofs.YtpkkajglbklboaaDoor
namespace Go.Proofs.YtpkkajglbklboaaDoor
open Go.ChangeShapes Go.WideShapes Go.ChangeAt Go.RowKit
set_option linter.unusedVariables false
set_option linter.unusedSimpArgs false

def minA : MT IP → IP
  | .nil => (0, 0)
  | .node a .nil _ => a
  | .node _ (.node b x y) _ => minA (.node b x y)
def delMin : MT IP → MT IP
  | .nil => .nil
  | .node _ .nil r => r
  | .node a (.node b x y) r => .node a (delMin (.node b x y)) r
def delTop : MT IP → MT IP → MT IP
  | .nil, r => r
  | l, .nil => l
  | l, r => .node (minA r) l (delMin r)
theorem delTop_nn (a b : IP) (l r x y : MT IP) : delTop (.node a l r) (.node b x y) = .node (minA (.node b x y)) (.node a l r) (delMin (.node b x y)) := rfl
def del : MT IP → Int → MT IP
  | .nil, _ => .nil
  | .node a l r, k => if k < a.1 then .node a (del l k) r else if a.1 < k then .node a l (del r k) else delTop l r
theorem del_on {f : Fm IP} {k : Int} (h : (f.left = true → k < f.a.1) ∧ (f.left = false → f.a.1 < k)) (t : MT IP) : del (f.on t) k = f.on (del t k) := by
  obtain ⟨a, left, o⟩ := f
  cases left with
  | true => simp [Fm.on, del, h.1 rfl]
  | false =>
    have := h.2 rfl
    simp only at this
    simp [Fm.on, del, this, show ¬ k < a.1 by omega]
theorem del_plug {k : Int} : ∀ (C : List (Fm IP)) (t : MT IP), Dir Prod.fst C k → del (plug C t) k = plug C (del t k)
  | [], _, _ => rfl
  | f :: C, t, h => by
    have h1 := del_plug C (f.on t) (fun x hx => h x (by simp [hx]))
    rw [plug, h1, del_on (h f (by simp)), plug]
theorem min_plug : ∀ (C : List (Fm IP)) (a : IP) (x y : MT IP), (∀ f ∈ C, f.left = true) → minA (plug C (.node a x y)) = minA (.node a x y) ∧ delMin (plug C (.node a x y)) = plug C (delMin (.node a x y)) ∧ ∃ b u v, plug C (.node a x y) = .node b u v
  | [], a, x, y, _ => ⟨rfl, rfl, a, x, y, rfl⟩
  | f :: C, a, x, y, h => by
    have hf := h f (by simp)
    have ho : ∀ t, f.on t = .node f.a t f.o := fun t => by simp [Fm.on, hf]
    obtain ⟨h1, h2, h3⟩ := min_plug C f.a (.node a x y) f.o (fun g hg => h g (by simp [hg]))
    rw [plug, ho]
    refine ⟨by rw [h1, minA], by rw [h2, delMin, plug, ho], h3⟩

theorem At_.putK {α : Type} {w w1 : World} {nt : TypeId} {E : Enc α} {kf : α → Int} {r0 : Addr} {T : MT α} {F : List Nat} {key : Int} {C : List (Fm α)} {q : Addr} {t : MT α} {p : Option Addr} {Fc Ft : List Nat} (h : At_ w nt E kf r0 T F key C q t p Fc Ft)
    (hr : r0.block ∉ F) (hk : Kf (fun i => i ∈ Ft) w w1) (hrl : r0.block < w.heap.size) (hfr : w.frozen? r0 = false) {t' : MT α} {p' : Option Addr} {Ft' : List Nat} (hm : MR w1 nt E t' p' Ft') (hd : ∀ x ∈ Ft', x ∈ Ft) :
    ∃ p0 F0, (w1.setCell q (.pointer p')).cell? r0 = some (.pointer p0) ∧ MR (w1.setCell q (.pointer p')) nt E (plug C t') p0 F0 ∧ (∀ x ∈ F0, x ∈ F ∨ w.heap.size ≤ x) ∧ (w1.setCell q (.pointer p')).frozen? r0 = false ∧ Kf (fun i => i = r0.block ∨ i ∈ F) w (w1.setCell q (.pointer p')) ∧ ∀ x ∈ F0, x ∈ Ft' ∨ x ∈ Fc := by
  have hfc : r0.block ∉ Fc := fun hx => hr (h.sub _ (.inr hx))
  have hrt : r0.block ∉ Ft := fun hx => hr (h.sub _ (.inl hx))
  have hqt : q.block ∉ Ft := by
    rcases h.zp.at_ with e | hx
    · rw [e]; exact hrt
    · exact fun h' => h.dis _ h' hx
  have hz1 := (h.zp.kf hk hrt hrl (fun i hi h' => h.dis i h' hi)).store hfc p'
  have hqc : (w1.setCell q (.pointer p')).cell? q = some (.pointer p') := World.cell?_setCell_same' w1 q _ (by rw [hk.cell hqt h.cell]; rfl)
  obtain ⟨p0, F0, g1, g2, g3⟩ := hz1.close hqc (hm.set (fun hx => hqt (hd _ hx))) (fun x hx => h.dis x (hd x hx))
  refine ⟨p0, F0, g1, g2, fun x hx => ?_, ?_, ?_, fun x hx => (g3 x).1 hx⟩
  · rcases (g3 x).1 hx with hx | hx
    · exact .inl (h.sub x (.inl (hd x hx)))
    · exact .inl (h.sub x (.inr hx))
  · rw [World.frozen?_setCell, hk.frozen hrl hrt]; exact hfr
  · exact (hk.mono fun i _ hi => .inr (h.sub i (.inl hi))).set (.inl (h.zp.blk fun x hx => h.sub x (.inr hx)))

def CuRel (w : World) (r0 : Addr) (T : MT IP) (F : List Nat) (nt : TypeId) (qv : Value) (wr : World) : Prop :=
  ∃ C q a x y p Fc Ft, qv = .pointer (some q) ∧ At_ w nt ePair (fun _ => 0) r0 T F (-1) C q (.node a x y) p Fc Ft ∧ (∀ f ∈ C, f.left = true) ∧ w = wr
end Go.Proofs.YtpkkajglbklboaaDoor
