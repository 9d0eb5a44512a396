/-
  A variable that holds a slice which grows (OB): read, appended to. Conditions: none.
  plain.within, hedgref.Between, hedgref.MapRight, plain.Check: what they answer. Conditions: the list reads as l (RD).
-/
import Derived.Test.YthbapflabjogkaaHeapOneM6
import Derived.Test.YthbapflabjogkaaHeapOneM1

namespace Go.Proofs.Ythbapflabjogkaa
open Go.ChangeShapes Go.WideShapes Go.ChangeAt Go.RowKit
set_option linter.unusedVariables false
set_option linter.unusedSimpArgs false

/-- Only the row of v may have been written. Behind a name. -/
def KV (v : Value) (w w' : World) : Prop := Kf (fun i => v.ownBlock = some i) w w'
section
variable {v : Value} {w W W' : World}
theorem KV.refl (v : Value) (w : World) : KV v w w := Kf.refl _ _
theorem KV.size (h : KV v w W) : w.heap.size ≤ W.heap.size := Kf.size h
theorem KV.drew (h : KV v w W) : KV v w W.drew := Kf.on h (Kp.refl W).drew
theorem KV.drewN {n : Nat} (h : KV v w W) : KV v w (W.drewN n) := Kf.on h (Kp.refl W).drewN
theorem KV.alloc {o : Obj} (h : KV v w W) : KV v w (W.alloc o) := Kf.on h (Kp.refl W).alloc
theorem KV.app (hg : W.grownBy W' v.ownBlock) (h : KV v w W) : KV v w W' := Kf.app h hg fun _ hk => .inl hk
theorem KV.call (hb : Kp W W') (h : KV v w W) : KV v w W' := Kf.on h hb
theorem KV.cell {p : Addr} {u : Value} (h : KV v w W) (hn : v.ownBlock ≠ some p.block) (hc : w.cell? p = some u) : W.cell? p = some u := Kf.cell h hn hc
theorem KV.frozen {p : Addr} (h : KV v w W) (hp : p.block < w.heap.size) (hn : v.ownBlock ≠ some p.block) : W.frozen? p = w.frozen? p := Kf.frozen h hp hn
end
section
variable {α : Type} {w w3 : World} {B g : Nat} {st e : TypeId} {E : Enc α} {l l' : List α} {v v3 : Value}
theorem ob_app (hb : BC w g st [v]) (ho : OW w B e E v l) (hn : v.ownBlock ≠ some g) (k : KV v w w3) (ho3 : OW w3 B e E v3 l') (hat : v3.ownBlock = v.ownBlock ∨ Hi w.heap.size v3) :
    OB (w3.setCell ⟨g, 0, none⟩ v3) B g st e E l' ∧ KO g B w (w3.setCell ⟨g, 0, none⟩ v3) := by
  have hz := KV.size k
  have hlt := hb.lt
  have hn3 : v3.ownBlock ≠ some g := by
    rcases hat with h | h
    · rw [h]; exact hn
    · intro e; have := h g e; omega
  have hb3 : BC w3 g st [v] := hb.kf k hn
  refine ⟨⟨v3, hb3.set (j := 0) (u := v3), ho3.setCell hn3 v3, hn3⟩, v, v3, hb.cell 0, (hb3.set (j := 0) (u := v3)).cell 0, Kf.set (Kf.mono k fun i _ hi => .inr hi) (.inl (.inl rfl)), hat⟩
theorem RD.slice {β : Type} {E' : Enc β} {u : Value} {m : List β} (h : RD w E' u m) : ∃ A n c, u = .slice A n c := by
  obtain ⟨A, c, rfl, _⟩ := h
  exact ⟨A, _, c, rfl⟩
theorem KO.size {a b : World} (h : KO g B a b) : a.heap.size ≤ b.heap.size := by
  obtain ⟨v, v', h1, h2, h3, h4⟩ := h
  exact Kf.size h3
theorem RD.ko {β : Type} {E' : Enc β} {w' : World} {u : Value} {m : List β} (h : RD w E' u m) (ho : OB w B g st e E l) (hk : KO g B w w') (hu : 0 < m.length → Lo B u) (hg : B ≤ g) : RD w' E' u m := by
  obtain ⟨v, hb, hv, hn⟩ := ho
  obtain ⟨v1, v2, k1, k2, k3, k4⟩ := hk
  have e1 : some v1 = some v := k1.symm.trans (hb.cell 0)
  injection e1 with e1
  subst e1
  refine h.kf k3 fun h0 k hk hF => ?_
  have := hu h0 k hk
  rcases hF with rfl | hF
  · omega
  · have := (hv.lt k hF).1; omega
theorem OB.kp {w' : World} (h : OB w B g st e E l) (hk : Kp w w') : OB w' B g st e E l := by
  obtain ⟨v, hb, hv, hn⟩ := h
  exact ⟨v, hb.kp hk, hv.kp hk, hn⟩
theorem OB.new (w : World) (hB : B ≤ w.heap.size) : OB (w.alloc (.cells #[.slice none 0 0] st)) B w.heap.size st e E ([] : List α) :=
  ⟨.slice none 0 0, BC.new w st [.slice none 0 0], OW.nil, by simp [Value.ownBlock]⟩
theorem KO.on {a b c : World} (h : KO g B a b) (hk : Kp b c) : KO g B a c := by
  obtain ⟨v, v', h1, h2, h3, h4⟩ := h
  exact ⟨v, v', h1, hk.cell h2, h3.on hk, h4⟩
theorem KO.onL {a b c : World} (h : KO g B b c) (hk : Kp a b) (hg : g < a.heap.size) (ho : OB a B g st e E l) : KO g B a c := by
  obtain ⟨v0, hb, hv, hn⟩ := ho
  obtain ⟨v, v', h1, h2, h3, h4⟩ := h
  have e1 : some v = some v0 := h1.symm.trans (hk.cell (hb.cell 0))
  injection e1 with e1
  subst e1
  have hz := hk.size
  refine ⟨v, v', hb.cell 0, h2, (Kf.of (F := fun i => i = g ∨ v.ownBlock = some i) hk).trans h3 (fun i _ h => h), h4.imp id fun h => h.mono hz⟩
theorem OB.kp0 {a w' : World} (h : OB w B g st e E l) (hk : KO g B w w') (h0 : Kp a w) (hB : a.heap.size ≤ B) (hg : B ≤ g) : Kp a w' :=
  hk.kp h0 (by omega) fun v hv => by
    obtain ⟨u, hb, ho, _⟩ := h
    have e1 : some v = some u := hv.symm.trans (hb.cell 0)
    injection e1 with e1
    subst e1
    exact fun k hk => Nat.le_trans hB (ho.lt k hk).1
end
theorem BC.ko {α : Type} {w w' : World} {B g i : Nat} {st e t : TypeId} {E : Enc α} {l : List α} {cs : List Value} (h : BC w i t cs) (ho : OB w B g st e E l) (hk : KO g B w w') (h1 : st ≠ t) (h2 : e ≠ t) : BC w' i t cs := by
  obtain ⟨v, hb, hv, hn⟩ := ho
  obtain ⟨v1, v2, k1, k2, k3, k4⟩ := hk
  have e1 : some v1 = some v := k1.symm.trans (hb.cell 0)
  injection e1 with e1
  subst e1
  refine h.kf k3 fun hg => ?_
  rcases hg with rfl | hg
  · exact hb.ne h h1 rfl
  · exact hv.bc_ne h h2 hg
/-- What a call leaves that appends so much to the variable. -/
def WPost {α : Type} (B g : Nat) (st e : TypeId) (E : Enc α) (r : Value) (l : List α) (w : World) (en : Ending) (w' : World) : Prop := en = .returned r ∧ OB w' B g st e E l ∧ KO g B w w'
end Go.Proofs.Ythbapflabjogkaa
namespace Go.Proofs.Ythbapflabjogkaa
open Go.ChangeShapes Go.WideShapes Go.ChangeAt Go.RowKit
set_option linter.unusedVariables false
set_option linter.unusedSimpArgs false

def btw (n lo hi : Int) : Bool := decide (lo ≤ n ∧ n ≤ hi)
theorem btw_iff (n lo hi : Int) : btw n lo hi = true ↔ lo ≤ n ∧ n ≤ hi := by simp [btw]
theorem btw_f_iff (n lo hi : Int) : btw n lo hi = false ↔ ¬ (lo ≤ n ∧ n ≤ hi) := by simp [btw]
theorem btw_cases (n lo hi : Int) : (btw n lo hi = true ∧ lo ≤ n ∧ n ≤ hi) ∨ (btw n lo hi = false ∧ (n < lo ∨ hi < n)) := by
  by_cases h : lo ≤ n ∧ n ≤ hi
  · exact .inl ⟨(btw_iff _ _ _).2 h, h⟩
  · exact .inr ⟨(btw_f_iff _ _ _).2 h, by omega⟩

theorem between_any (n lo hi : Int) (w : World) :
    Calls Try.prog 29 #[.int .i64 n, .int .i64 lo, .int .i64 hi] w fun e w' => e = .returned (.bool (btw n lo hi)) ∧ w = w' := by
  by_cases h1 : lo ≤ n
  · by_cases h2 : n ≤ hi
    · go_enter Try.func29, Try.ntmps29
      go_wp2
      go_ret
      exact ⟨by simp [btw]; omega, rfl⟩
    · go_enter Try.func29, Try.ntmps29
      go_wp2
      go_ret
      exact ⟨by simp [btw]; omega, rfl⟩
  · go_enter Try.func29, Try.ntmps29
    go_wp2
    go_ret
    exact ⟨by simp [btw]; omega, rfl⟩
theorem between_to (n lo hi : Int) (b : Bool) (w : World) (h : btw n lo hi = b) :
    Calls Try.prog 29 #[.int .i64 n, .int .i64 lo, .int .i64 hi] w fun e w' => e = .returned (.bool b) ∧ w = w' := by
  have := between_any n lo hi w
  rwa [h] at this
theorem within_any (n lo hi : Int) (w : World) :
    Calls Try.prog 40 #[.int .i64 n, .int .i64 lo, .int .i64 hi] w fun e w' => e = .returned (.bool (btw n lo hi)) ∧ w = w' := by
  by_cases h1 : lo ≤ n
  · by_cases h2 : n ≤ hi
    · go_enter Try.func40, Try.ntmps40
      go_wp2
      go_ret
      exact ⟨by simp [btw]; omega, rfl⟩
    · go_enter Try.func40, Try.ntmps40
      go_wp2
      go_ret
      exact ⟨by simp [btw]; omega, rfl⟩
  · go_enter Try.func40, Try.ntmps40
    go_wp2
    go_ret
    exact ⟨by simp [btw]; omega, rfl⟩
theorem within_to (n lo hi : Int) (b : Bool) (w : World) (h : btw n lo hi = b) :
    Calls Try.prog 40 #[.int .i64 n, .int .i64 lo, .int .i64 hi] w fun e w' => e = .returned (.bool b) ∧ w = w' := by
  have := within_any n lo hi w
  rwa [h] at this
def mrFrom (last : Int) : List IP → Int
  | [] => 0
  | p :: t => if btw p.1 (last + 1) 1000000 then mrFrom p.1 t else 3
def mapRight (l : List IP) : Int := if l.length > 200 then 2 else mrFrom (-1) l
theorem mrFrom_drop (l : List IP) (k : Nat) (h : k < l.length) (last : Int) : mrFrom last (l.drop k) = if btw l[k].1 (last + 1) 1000000 then mrFrom l[k].1 (l.drop (k+1)) else 3 := by
  rw [List.drop_eq_getElem_cons h, mrFrom]
theorem mrFrom_end (l : List IP) (k : Nat) (h : ¬ k < l.length) (last : Int) : mrFrom last (l.drop k) = 0 := by
  rw [List.drop_of_length_le (by omega)]; rfl

def MRel (l : List IP) (w : World) (v i : Value) (wr : World) : Prop :=
  ∃ (k : Nat) (last : Int), k ≤ l.length ∧ i = .int .i64 k ∧ v = .int .i64 last ∧ -1 ≤ last ∧ last ≤ 1000000 ∧ mrFrom last (l.drop k) = mrFrom (-1) l ∧ Below w.heap.size w wr

set_option maxHeartbeats 400000 in
theorem mapRight_any (l : List IP) (v : Value) (w : World) (hr : RD w ePair v l) :
    Calls Try.prog 12 #[v] w (Ret (.int .i64 (mapRight l)) w) := by
  obtain ⟨A, c, rfl, hc, hm⟩ := hr.shape
  by_cases hlen : l.length > 200
  · go_enter Try.func12, Try.ntmps12
    go_wp2
    go_ret
    exact ⟨by simp [mapRight, hlen], Below.refl _ _⟩
  · have hres : Hid (mapRight l = mrFrom (-1) l) := hide (by simp [mapRight, hlen])
    have HR := hide hr
    clear hr
    go_enter Try.func12, Try.ntmps12
    go_wp2
    go_loopw [3, 11] (MRel l w) (fun a i wr => l.length - (intOf i).toNat)
    case atStart => exact ⟨0, -1, by omega, rfl, rfl, by omega, by omega, rfl, Below.refl _ _⟩
    case round =>
      obtain ⟨k, last, hk, rfl, rfl, h1, h2, hmr, hbel⟩ := hrel
      have hmr' := hide hmr
      clear hmr
      have hz := hbel.size
      by_cases hlt : k < l.length
      · obtain ⟨b, o, rfl, hb, c0, c1⟩ := (HR.out.below hbel).pair hlt
        have hd := mrFrom_drop l k hlt last
        rcases btw_cases l[k].1 (last + 1) 1000000 with ⟨hB, hb3, hb4⟩ | ⟨hB, hb3⟩
        · rw [hB, if_pos rfl] at hd
          have hd' := hide hd
          clear hd
          have hB' := hide hB
          clear hB
          go_wp2_with (go_at_call 29; refine (between_to _ _ _ true _ hB'.out).mono ?_; rintro e w' ⟨rfl, rfl⟩)
          go_roundw
          case rel => exact ⟨k+1, l[k].1, by omega, by go_num, rfl, by omega, by omega, by rw [← hd'.out, hmr'.out], hbel.alloc hbel.size _⟩
          case measure => simp [intOf]; omega
        · rw [hB, if_neg (by simp)] at hd
          have hd' := hide hd
          clear hd
          have hB' := hide hB
          clear hB hb3
          go_wp2_with (go_at_call 29; refine (between_to _ _ _ false _ hB'.out).mono ?_; rintro e w' ⟨rfl, rfl⟩)
          go_ret
          exact ⟨by rw [hres.out, ← hmr'.out, hd'.out]; rfl, hbel.alloc hbel.size _⟩
      · go_wp2
        go_ret
        exact ⟨by rw [hres.out, ← hmr'.out, mrFrom_end _ _ hlt]; rfl, hbel⟩
theorem mapRight_len (l : List IP) (h : mapRight l = 0) : l.length ≤ 200 := by
  unfold mapRight at h
  split at h
  · omega
  · omega

def CRel (l : List IP) (w : World) (i : Value) (wr : World) : Prop :=
  ∃ (k : Nat) (last : Int), k ≤ l.length ∧ i = .int .i64 k ∧ -1 ≤ last ∧ last ≤ 1000000 ∧ (k = 0 → last = -1) ∧ (∀ h : k - 1 < l.length, 0 < k → last = l[k-1].1 ∧ 0 ≤ last) ∧ mrFrom last (l.drop k) = mrFrom (-1) l ∧ Below w.heap.size w wr

set_option maxHeartbeats 400000 in
theorem check_any (l : List IP) (v : Value) (w : World) (hr : RD w ePair v l) :
    Calls Try.prog 28 #[v] w (Ret (.int .i64 (mapRight l)) w) := by
  obtain ⟨A, c, rfl, hc, hm⟩ := hr.shape
  by_cases hlen : l.length > 200
  · go_enter Try.func28, Try.ntmps28
    go_wp2
    go_ret
    exact ⟨by simp [mapRight, hlen], Below.refl _ _⟩
  · have hres : Hid (mapRight l = mrFrom (-1) l) := hide (by simp [mapRight, hlen])
    have HR := hide hr
    clear hr
    go_enter Try.func28, Try.ntmps28
    go_wp2
    go_loopw [10] (CRel l w) (fun i wr => l.length - (intOf i).toNat)
    case atStart => exact ⟨0, -1, by omega, rfl, by omega, by omega, fun _ => rfl, fun _ h => by omega, rfl, Below.refl _ _⟩
    case round =>
      obtain ⟨k, last, hk, rfl, h1, h2, h3, h4, hmr, hbel⟩ := hrel
      have hmr' := hide hmr
      clear hmr
      have hz := hbel.size
      by_cases hlt : k < l.length
      · obtain ⟨b, o, rfl, hb, c0, c1⟩ := (HR.out.below hbel).pair hlt
        have hd := mrFrom_drop l k hlt last
        rcases btw_cases l[k].1 0 1000000 with ⟨hB, hb3, hb4⟩ | ⟨hB, hb3⟩
        · have hB' := hide hB
          clear hB
          by_cases hk0 : k = 0
          · have hl : last = -1 := h3 hk0
            have hd1 : btw l[k].1 (last + 1) 1000000 = true := (btw_iff _ _ _).2 ⟨by omega, hb4⟩
            rw [hd1, if_pos rfl] at hd
            have hd' := hide hd
            have hg : decide (0 < k) = false := by simp; omega
            have hl' := hide hl
            have hk0' := hide hk0
            clear hd hd1 h3 h4 hl hk0
            go_wp2_with fail
            go_quiet ((go_at_call 40; exact Calls.quiet_of_same ((within_to _ _ _ true _ hB'.out).mono fun _ _ h => ⟨h.1, h.2.symm⟩)))
            go_wp2
            go_roundw
            case rel => exact ⟨k+1, l[k].1, by omega, by go_num, by omega, by omega, fun h => by omega, fun _ _ => ⟨rfl, hb3⟩, by rw [← hd'.out, hmr'.out], (by repeat' (first | exact Below.refl _ _ | (with_reducible assumption) | apply Below.drew | apply below_drewN | apply Below.alloc | apply Below.setCell)
                                                                                                                                                                all_goals (first | omega | (simp; omega) | (simp; done)))⟩
            case measure => simp [intOf]; omega
          · obtain ⟨hl, hl0⟩ := h4 (by omega) (by omega)
            obtain ⟨b2, o2, e2, _, c2, _⟩ := (HR.out.below hbel).pair (k := k - 1) (by omega)
            injection e2 with e2
            injection e2 with e3 e4
            subst e3 e4
            have hg : decide (0 < k) = true := by simp; omega
            have hw1 : IntKind.i64.wrap ((k : Int) - 1) = (k : Int) - 1 := IntWalk.i64_in _ (by omega)
            have hw2 : (0 : Int) ≤ (k : Int) - 1 := by omega
            have hw3 : (k : Int) - 1 < (l.length : Int) := by omega
            have hw4 : ((k : Int) - 1).toNat = k - 1 := by omega
            by_cases hge : l[k].1 ≤ l[k-1].1
            · have hd1 : btw l[k].1 (last + 1) 1000000 = false := (btw_f_iff _ _ _).2 (by omega)
              rw [hd1, if_neg (by simp)] at hd
              have hd' := hide hd
              have hl' := hide hl
              clear hd hd1 h3 h4 hl hk0
              go_wp2_with fail
              go_quiet ((go_at_call 40; exact Calls.quiet_of_same ((within_to _ _ _ true _ hB'.out).mono fun _ _ h => ⟨h.1, h.2.symm⟩)))
              go_wp2
              go_ret
              exact ⟨by rw [hres.out, ← hmr'.out, hd'.out]; rfl, (by repeat' (first | exact Below.refl _ _ | (with_reducible assumption) | apply Below.drew | apply below_drewN | apply Below.alloc | apply Below.setCell)
                                                                     all_goals (first | omega | (simp; omega) | (simp; done)))⟩
            · have hd1 : btw l[k].1 (last + 1) 1000000 = true := (btw_iff _ _ _).2 ⟨by omega, hb4⟩
              rw [hd1, if_pos rfl] at hd
              have hd' := hide hd
              have hl' := hide hl
              clear hd hd1 h3 h4 hl hk0
              go_wp2_with fail
              go_quiet ((go_at_call 40; exact Calls.quiet_of_same ((within_to _ _ _ true _ hB'.out).mono fun _ _ h => ⟨h.1, h.2.symm⟩)))
              go_wp2
              go_roundw
              case rel => exact ⟨k+1, l[k].1, by omega, by go_num, by omega, by omega, fun h => by omega, fun _ _ => ⟨rfl, hb3⟩, by rw [← hd'.out, hmr'.out], (by repeat' (first | exact Below.refl _ _ | (with_reducible assumption) | apply Below.drew | apply below_drewN | apply Below.alloc | apply Below.setCell)
                                                                                                                                                                  all_goals (first | omega | (simp; omega) | (simp; done)))⟩
              case measure => simp [intOf]; omega
        · have hd1 : btw l[k].1 (last + 1) 1000000 = false := (btw_f_iff _ _ _).2 (by omega)
          rw [hd1, if_neg (by simp)] at hd
          have hd' := hide hd
          have hB' := hide hB
          clear hd hd1 h3 h4 hB hb3
          go_wp2_with fail
          go_quiet ((go_at_call 40; exact Calls.quiet_of_same ((within_to _ _ _ false _ hB'.out).mono fun _ _ h => ⟨h.1, h.2.symm⟩)))
          go_wp2
          go_ret
          exact ⟨by rw [hres.out, ← hmr'.out, hd'.out]; rfl, (by repeat' (first | exact Below.refl _ _ | (with_reducible assumption) | apply Below.drew | apply below_drewN | apply Below.alloc | apply Below.setCell)
                                                                 all_goals (first | omega | (simp; omega) | (simp; done)))⟩
      · go_wp2
        go_ret
        exact ⟨by rw [hres.out, ← hmr'.out, mrFrom_end _ _ hlt]; rfl, hbel⟩
end Go.Proofs.Ythbapflabjogkaa
