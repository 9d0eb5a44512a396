/-
  desk.tree: what it answers
-/
import Derived.Test.YtcljlnagpjilaaaGreatDoorG15
import Derived.Test.YtcljlnagpjilaaaGreatDoorG16
import Derived.Test.YtcljlnagpjilaaaGreatDoorG17
import Derived.Test.YtcljlnagpjilaaaGreatDoorG25

set_option linter.unusedVariables false
set_option linter.unusedSimpArgs false
set_option maxRecDepth 100000
set_option maxHeartbeats 8000000
namespace Go.Proofs.YtcljlnagpjilaaaGreatDoor
open Go.ChangeShapes Go.WideShapes Go.ChangeAt Go.RowKit
def OrT (r : Except Int (List IP)) (w : World) (e : Ending) (w' : World) : Prop := (match r with | .ok l => ∃ v, e = .returned v /\ RD w' ePair v l | .error k => e = slipE k) /\ Kp w w'
def exT (x : List IP) (e : Int) : Except Int (List IP) := if e = 0 then .ok x else .error e
def growB : By := [103, 114, 111, 119]
def zipB : By := [122, 105, 112]
def goatB : By := [103, 111, 97, 116]
def evenB : By := [101, 118, 101, 110]
def treeS (ks : List Int) (ops : List O3) (s : By) : Except Int (List IP) :=
 if s = growB then exT (growRun ops).1 (growRun ops).2.2 else if s = zipB then exT (zipRun ops).1 (zipRun ops).2.2 else
 if s = goatB then exT (goatRun ops).1 (goatRun ops).2.2.2 else if s = evenB then exT (evenA ks).1 (evenA ks).2 else .error 1
theorem deskTree_grow (d : Nat) (l : List IP) (ops : List O3) (s : ByteArray) (v u : Value) (w : World) (hc0 : w.cell? ⟨d, 0, none⟩ = some v) (hc1 : w.cell? ⟨d, 1, none⟩ = some u) (hr : RD w ePair v l) (hu : RD w eOp u ops) (hn : l.length <= 1000000) (hdb : DTb w)
  (b1 : (s.toList == [103, 114, 111, 119]) = true) : Calls Tryz.prog 43 #[.pointer (some ⟨d, 0, none⟩), .string s] w (OrT (exT (growRun ops).1 (growRun ops).2.2) w) := by
 have HDB := hide hdb
 obtain ⟨X, hX⟩ : ∃ X, growRun ops = X := ⟨_, rfl⟩
 have HC := hide (growRun_any ops u w hu)
 rw [hX] at HC ⊢
 clear hX
 obtain ⟨x, an, er⟩ := X
 go_enter Tryz.func43, Tryz.ntmps43
 go_wp2_with fail
 refine HC.out.mono ?_
 rintro e w1 ⟨v1, u1, rfl, hr1, hu1, hb1⟩
 have hk1 := Kp.of hb1
 obtain ⟨A1, c1, rfl, hc1', _⟩ := hr1.shape
 have HR1 := hide hr1
 clear hr1 hu1
 by_cases he : er = 0
 ·subst he
  go_wp2_with fail
  refine (must_any 0 _).mono ?_
  rintro e w3 ⟨he, rfl⟩
  rw [if_pos rfl] at he
  subst he
  go_wp2
  go_ret
  refine ⟨?_, hk1⟩
  unfold exT
  rw [if_pos rfl]
  exact ⟨_, rfl, HR1.out⟩
 ·go_wp2_with fail
  with_reducible refine (must_any er _).mono ?_
  rintro e w3 ⟨hm, rfl⟩
  rw [if_neg he, slipE] at hm
  subst hm
  go_wp2
  refine ⟨rfl, ?_, hk1⟩
  unfold exT
  rw [if_neg he]
  rfl
theorem deskTree_zip (d : Nat) (l : List IP) (ops : List O3) (s : ByteArray) (v u : Value) (w : World) (hc0 : w.cell? ⟨d, 0, none⟩ = some v) (hc1 : w.cell? ⟨d, 1, none⟩ = some u) (hr : RD w ePair v l) (hu : RD w eOp u ops) (hn : l.length <= 1000000) (hdb : DTb w)
  (b1 : (s.toList == [103, 114, 111, 119]) = false) (b2 : (s.toList == [122, 105, 112]) = true) : Calls Tryz.prog 43 #[.pointer (some ⟨d, 0, none⟩), .string s] w (OrT (exT (zipRun ops).1 (zipRun ops).2.2) w) := by
 have HDB := hide hdb
 obtain ⟨X, hX⟩ : ∃ X, zipRun ops = X := ⟨_, rfl⟩
 have HC := hide (zipRun_any ops u w hu hdb)
 rw [hX] at HC ⊢
 clear hX
 obtain ⟨x, an, er⟩ := X
 go_enter Tryz.func43, Tryz.ntmps43
 go_wp2_with fail
 refine HC.out.mono ?_
 rintro e w1 ⟨v1, u1, rfl, hr1, hu1, hb1⟩
 have hk1 := Kp.of hb1
 obtain ⟨A1, c1, rfl, hc1', _⟩ := hr1.shape
 have HR1 := hide hr1
 clear hr1 hu1
 by_cases he : er = 0
 ·subst he
  go_wp2_with fail
  refine (must_any 0 _).mono ?_
  rintro e w3 ⟨he, rfl⟩
  rw [if_pos rfl] at he
  subst he
  go_wp2
  go_ret
  refine ⟨?_, hk1⟩
  unfold exT
  rw [if_pos rfl]
  exact ⟨_, rfl, HR1.out⟩
 ·go_wp2_with fail
  with_reducible refine (must_any er _).mono ?_
  rintro e w3 ⟨hm, rfl⟩
  rw [if_neg he, slipE] at hm
  subst hm
  go_wp2
  refine ⟨rfl, ?_, hk1⟩
  unfold exT
  rw [if_neg he]
  rfl
theorem deskTree_goat (d : Nat) (l : List IP) (ops : List O3) (s : ByteArray) (v u : Value) (w : World) (hc0 : w.cell? ⟨d, 0, none⟩ = some v) (hc1 : w.cell? ⟨d, 1, none⟩ = some u) (hr : RD w ePair v l) (hu : RD w eOp u ops) (hn : l.length <= 1000000) (hdb : DTb w)
  (b1 : (s.toList == [103, 114, 111, 119]) = false) (b2 : (s.toList == [122, 105, 112]) = false) (b3 : (s.toList == [103, 111, 97, 116]) = true) : Calls Tryz.prog 43 #[.pointer (some ⟨d, 0, none⟩), .string s] w (OrT (exT (goatRun ops).1 (goatRun ops).2.2.2) w) := by
 have HDB := hide hdb
 obtain ⟨X, hX⟩ : ∃ X, goatRun ops = X := ⟨_, rfl⟩
 have HC := hide (goatRun_any ops u w hu)
 rw [hX] at HC ⊢
 clear hX
 obtain ⟨x, bn, an, er⟩ := X
 go_enter Tryz.func43, Tryz.ntmps43
 go_wp2_with fail
 refine HC.out.mono ?_
 rintro e w1 ⟨v1, u1, rfl, hr1, hu1, hb1⟩
 have hk1 := Kp.of hb1
 obtain ⟨A1, c1, rfl, hc1', _⟩ := hr1.shape
 have HR1 := hide hr1
 clear hr1 hu1
 by_cases he : er = 0
 ·subst he
  go_wp2_with fail
  refine (must_any 0 _).mono ?_
  rintro e w3 ⟨he, rfl⟩
  rw [if_pos rfl] at he
  subst he
  go_wp2
  go_ret
  refine ⟨?_, hk1⟩
  unfold exT
  rw [if_pos rfl]
  exact ⟨_, rfl, HR1.out⟩
 ·go_wp2_with fail
  with_reducible refine (must_any er _).mono ?_
  rintro e w3 ⟨hm, rfl⟩
  rw [if_neg he, slipE] at hm
  subst hm
  go_wp2
  refine ⟨rfl, ?_, hk1⟩
  unfold exT
  rw [if_neg he]
  rfl
theorem deskTree_even (d : Nat) (l : List IP) (ops : List O3) (s : ByteArray) (v u : Value) (w : World) (hc0 : w.cell? ⟨d, 0, none⟩ = some v) (hc1 : w.cell? ⟨d, 1, none⟩ = some u) (hr : RD w ePair v l) (hu : RD w eOp u ops) (hn : l.length <= 1000000) (hdb : DTb w)
  (b1 : (s.toList == [103, 114, 111, 119]) = false) (b2 : (s.toList == [122, 105, 112]) = false) (b3 : (s.toList == [103, 111, 97, 116]) = false) (b4 : (s.toList == [101, 118, 101, 110]) = true) : Calls Tryz.prog 43 #[.pointer (some ⟨d, 0, none⟩), .string s] w (OrT (exT (evenA (l.map Prod.fst)).1 (evenA (l.map Prod.fst)).2) w) := by
 have HDB := hide hdb
 have HK := hide (deskKeys_any d l v w hc0 hr hn)
 obtain ⟨ks, hks⟩ : ∃ ks, l.map Prod.fst = ks := ⟨_, rfl⟩
 rw [hks] at HK ⊢
 clear hks
 obtain ⟨X, hX⟩ : ∃ X, evenA ks = X := ⟨_, rfl⟩
 have HC := hide (fun W vv (h : RD W eInt vv ks) (hd : DTb W) => gtEvenF_any ks vv W h hd)
 rw [hX] at HC ⊢
 clear hX
 obtain ⟨x, er⟩ := X
 go_enter Tryz.func43, Tryz.ntmps43
 go_wp2_with fail
 refine HK.out.mono ?_
 rintro e w0 ⟨v0, rfl, ho0, hk0⟩
 have hr0 := hide ho0.rd
 have hk0 := Kp.of hk0
 obtain ⟨A0, c0, rfl, hc0', _⟩ := ho0.rd.shape
 clear ho0
 go_wp2_with fail
 refine (HC.out _ _ hr0.out (HDB.out.kp hk0)).mono ?_
 rintro e w1 ⟨v1, rfl, hr1, hb1⟩
 have hk1 := hk0.trans (Kp.of hb1)
 obtain ⟨A1, c1, rfl, hc1', _⟩ := hr1.shape
 have HR1 := hide hr1
 clear hr1
 by_cases he : er = 0
 ·subst he
  go_wp2_with fail
  refine (must_any 0 _).mono ?_
  rintro e w3 ⟨he, rfl⟩
  rw [if_pos rfl] at he
  subst he
  go_wp2
  go_ret
  refine ⟨?_, hk1⟩
  unfold exT
  rw [if_pos rfl]
  exact ⟨_, rfl, HR1.out⟩
 ·go_wp2_with fail
  with_reducible refine (must_any er _).mono ?_
  rintro e w3 ⟨hm, rfl⟩
  rw [if_neg he, slipE] at hm
  subst hm
  go_wp2
  refine ⟨rfl, ?_, hk1⟩
  unfold exT
  rw [if_neg he]
  rfl
theorem bl_ne {s l : By} (h : s ≠ l) : (s == l) = false := beq_eq_false_iff_ne.2 h
theorem deskTree_any (d : Nat) (l : List IP) (ops : List O3) (s : ByteArray) (v u : Value) (w : World) (hc0 : w.cell? ⟨d, 0, none⟩ = some v) (hc1 : w.cell? ⟨d, 1, none⟩ = some u) (hr : RD w ePair v l) (hu : RD w eOp u ops) (hn : l.length <= 1000000) (hdb : DTb w) :
  Calls Tryz.prog 43 #[.pointer (some ⟨d, 0, none⟩), .string s] w (OrT (treeS (l.map Prod.fst) ops s.toList) w) := by
 by_cases h1 : s.toList = growB
 ·rw [treeS, if_pos h1]
  exact deskTree_grow d l ops s v u w hc0 hc1 hr hu hn hdb (beq_iff_eq.2 h1)
 ·by_cases h2 : s.toList = zipB
  ·rw [treeS, if_neg h1, if_pos h2]
   exact deskTree_zip d l ops s v u w hc0 hc1 hr hu hn hdb (bl_ne h1) (beq_iff_eq.2 h2)
  ·by_cases h3 : s.toList = goatB
   ·rw [treeS, if_neg h1, if_neg h2, if_pos h3]
    exact deskTree_goat d l ops s v u w hc0 hc1 hr hu hn hdb (bl_ne h1) (bl_ne h2) (beq_iff_eq.2 h3)
   ·by_cases h4 : s.toList = evenB
    ·rw [treeS, if_neg h1, if_neg h2, if_neg h3, if_pos h4]
     exact deskTree_even d l ops s v u w hc0 hc1 hr hu hn hdb (bl_ne h1) (bl_ne h2) (bl_ne h3) (beq_iff_eq.2 h4)
    ·rw [treeS, if_neg h1, if_neg h2, if_neg h3, if_neg h4]
     have b1 : (s.toList == [103, 114, 111, 119]) = false := bl_ne h1
     have b2 : (s.toList == [122, 105, 112]) = false := bl_ne h2
     have b3 : (s.toList == [103, 111, 97, 116]) = false := bl_ne h3
     have b4 : (s.toList == [101, 118, 101, 110]) = false := bl_ne h4
     clear h1 h2 h3 h4 hr hu hdb
     go_enter Tryz.func43, Tryz.ntmps43
     go_wp2_with fail
     refine (must_any 1 _).mono ?_
     rintro e w3 ⟨hm, rfl⟩
     rw [if_neg (by decide), slipE] at hm
     subst hm
     go_wp2
     exact ⟨rfl, rfl, Kp.refl _⟩
end Go.Proofs.YtcljlnagpjilaaaGreatDoor
