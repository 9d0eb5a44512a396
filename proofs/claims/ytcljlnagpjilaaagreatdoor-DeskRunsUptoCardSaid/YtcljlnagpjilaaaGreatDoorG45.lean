/-
  hedgref.deskLine: a line that asks the map: what it answers
-/
import Derived.Test.YtcljlnagpjilaaaGreatDoorG44
import Derived.Test.YtcljlnagpjilaaaGreatDoorG24
import Derived.Test.YtcljlnagpjilaaaGreatDoorG25
import Derived.Test.YtcljlnagpjilaaaGreatDoorG33
import Derived.Test.YtcljlnagpjilaaaGreatDoorG32

set_option linter.unusedVariables false
set_option linter.unusedSimpArgs false
set_option maxRecDepth 100000
set_option maxHeartbeats 8000000
namespace Go.Proofs.YtcljlnagpjilaaaGreatDoor
open Go.ChangeShapes Go.WideShapes Go.ChangeAt Go.RowKit
def LiPost (x : List IP × List O3 × By) (w : World) (e : Ending) (w' : World) : Prop :=
 ∃ v u, e = .returned (.tuple #[v, u, .string (bs x.2.2)]) /\ RD w' ePair v x.1 /\ RD w' eOp u x.2.1 /\ Kp w w'
theorem idx_any (s : ByteArray) (w : World) (b : Nat) (hr : RD w eStr (.slice (some ⟨b, 0, none⟩) 7 7) kindsB) : Calls Tryz.prog 46 #[.slice (some ⟨b, 0, none⟩) 7 7, .string s] w (fun e w' => e = .returned (.int .i64 (kindOf s - 1)) /\ w' = w) := by
 have h := Any.slices_Index_string lIndex b 0 7 7 kindsB s w (by simp [kindsB]) (by omega) (fun j hj => hr.strs j hj)
 refine Calls.mono h ?_
 rintro e w' ⟨rfl, rfl⟩
 refine ⟨?_, rfl⟩
 rw [show kindsB.take 7 = kindsB from rfl]
 unfold kindOf
 rw [Int.add_sub_cancel]
theorem numF_ok {s : ByteArray} (h : s ≠ ByteArray.empty) : numF s.data.toList = if wOk s = true then some (wV s) else none := by
 have hl : 1 <= s.data.toList.length := by
  cases hd : s.data.toList with
  | nil => exact absurd (ByteArray.ext (Array.toList_inj.1 hd)) h
  | cons a r => simp
 unfold numF wOk wV
 by_cases h7 : s.data.toList.length <= 7
 ·by_cases ha : s.data.toList.all dig = true
  ·rw [if_pos ⟨hl, h7, ha⟩, if_pos (by rw [decide_eq_true h7, ha]; rfl)]
  ·rw [if_neg (fun h => ha h.2.2), if_neg (by simp [ha])]
 ·rw [if_neg (fun h => h7 h.2.1), if_neg (by rw [decide_eq_false h7]; simp)]
theorem wV_num {s : ByteArray} (h : s ≠ ByteArray.empty) (ho : wOk s = true) : Num (wV s) := by
 have h1 := numF_ok h
 rw [if_pos ho] at h1
 exact numF_in h1
theorem askW_nums (l : List IP) (ops : List O3) (ws : List ByteArray) (hne : ∀ s ∈ ws, s ≠ ByteArray.empty) (h0 : ws ≠ []) :
  askW l ops ws = match numsF (ws.drop 1) with
   | none => .error 1
   | some xs => if xs.length = (if kOf ws = 1 then 2 else 1) then askO l ops (kOf ws) (xs.getD 0 0) (if kOf ws = 1 then xs.getD 1 0 else 0) else .error 1 := by
 obtain ⟨s0, r, rfl⟩ : ∃ s0 r, ws = s0 :: r := by
  cases ws with
  | nil => exact absurd rfl h0
  | cons a r => exact ⟨a, r, rfl⟩
 rw [List.drop_succ_cons, List.drop_zero]
 unfold askW numsF
 by_cases hk : kOf (s0 :: r) = 1
 ·simp only [hk, ↓reduceIte]
  match r, hne with
  | [], _ => simp
  | [a], _ => by_cases ha : wOk a = true <;> simp [ha]
  | [a, b], hne =>
   have e1 := numF_ok (hne a (by simp))
   have e2 := numF_ok (hne b (by simp))
   have x1 : wAt [s0, a, b] 1 = a.data.toList := rfl
   have x2 : wAt [s0, a, b] 2 = b.data.toList := rfl
   rw [if_neg (by simp), x1, x2, e1, e2]
   by_cases ha : wOk a = true
   ·by_cases hb : wOk b = true
    ·simp [ha, hb]
    ·simp [ha, hb]
   ·simp [ha]
  | a :: b :: c :: t, _ =>
   rw [if_pos (by simp)]
   split
   ·rfl
   ·rename_i xs hx
    split at hx
    ·injection hx with hx
     rw [<- hx, if_neg (by simp)]
    ·cases hx
 ·simp only [hk, ↓reduceIte]
  match r, hne with
  | [], _ => simp
  | [a], hne =>
   have e1 := numF_ok (hne a (by simp))
   have x1 : wAt [s0, a] 1 = a.data.toList := rfl
   rw [if_neg (by simp), x1, e1]
   by_cases ha : wOk a = true <;> simp [ha]
  | a :: b :: t, _ =>
   rw [if_pos (by simp)]
   split
   ·rfl
   ·rename_i xs hx
    split at hx
    ·injection hx with hx
     rw [<- hx, if_neg (by simp)]
    ·cases hx
theorem nums_num {ws : List ByteArray} (hne : ∀ s ∈ ws, s ≠ ByteArray.empty) {xs : List Int} (h : numsF ws = some xs) : ∀ x ∈ xs, Num x := by
 unfold numsF at h
 split at h
 ·rename_i ha
  injection h with h
  subst h
  intro x hx
  obtain ⟨s, hs, rfl⟩ := List.mem_map.1 hx
  rw [List.all_eq_true] at ha
  exact wV_num (hne s hs) (ha s hs)
 ·cases h
theorem told_two (a b : Int) : wordsF [a, b] [] = Lib.itoa a ++ [32] ++ Lib.itoa b := by
 rw [wordsF, if_neg (by simp)]
 simp [Lib.join, Lib.joinTail]
def J26 (w0 : World) (ops : List O3) (o : O3) (L : Array Bool) (w : World) (γ : Option Value) : Prop :=
 Kp w0 w /\ (γ ≠ Option.none -> L.getD 5 true = true) /\ ∀ x, γ = some x -> OW w w0.heap.size 82 eOp x (ops ++ [o])
def G26 (w0 : World) (ops : List O3) (o : O3) (j : Nat) (v : Value) (w : World) (γ : Option Value) : Prop :=
 (j = 125 -> γ = Option.none -> OW w w0.heap.size 82 eOp v ops) /\ (j = 127 -> γ = Option.none -> RD w eOp v [o]) /\ ((j = 128 ∨ j = 7) -> γ = some v)
section
variable {w0 w w' : World} {ops : List O3} {o : O3} {L : Array Bool} {γ : Option Value} {j : Nat} {v x u : Value}
theorem J26.go (h : J26 w0 ops o L w γ) (k : Kp w w') (i : Nat) : J26 w0 ops o (L.setIfInBounds i true) w' γ :=
 ⟨h.1.trans k, fun hg => set_mono _ _ _ (h.2.1 hg), fun x hx => (h.2.2 x hx).kp k⟩
theorem J26.notyet (h : J26 w0 ops o L w γ) (hl : L.getD 5 true = false) : γ = Option.none := by
 cases γ with
 | none => rfl
 | some x => rw [h.2.1 (by simp)] at hl; cases hl
theorem J26.app (h : J26 w0 ops o L w γ) (hu : Hi w0.heap.size u) (hg : w.grownBy w' u.ownBlock) (ho : OW w' w0.heap.size 82 eOp x (ops ++ [o])) : J26 w0 ops o (L.setIfInBounds 5 true) w' (some x) :=
 ⟨Kp.app hg h.1 hu, fun _ => set_at _ _, fun y hy => by injection hy with hy; rw [<- hy]; exact ho⟩
theorem G26.kp (h : G26 w0 ops o j v w γ) (k : Kp w w') : G26 w0 ops o j v w' γ := ⟨fun e g => (h.1 e g).kp k, fun e g => (h.2.1 e g).kp k, h.2.2⟩
theorem G26.none (h : j ≠ 125 /\ j ≠ 127 /\ j ≠ 128 /\ j ≠ 7) : G26 w0 ops o j v w γ := ⟨fun e => by omega, fun e => by omega, fun e => by omega⟩
theorem G26.app (h : G26 w0 ops o j v w γ) (hj : j ≠ 128) (hγ : γ = Option.none) {w' : World} {x : Value} : G26 w0 ops o j v w' (some x) := by
 subst hγ
 refine ⟨fun _ e => (by cases e), fun _ e => (by cases e), fun e => ?_⟩
 have := h.2.2 e
 cases this
end
theorem doA_sign {l : List IP} (hr : mapRight l = 0) (hv : ∀ p ∈ l, Num p.2) (k key val : Int) : 0 <= (doA l k key val).2.key /\ 0 <= (doA l k key val).2.val := by
 have hgv : ∀ j, 0 <= gv l j := fun j => by
  unfold gv
  rw [List.getD_eq_getElem?_getD]
  cases hj : l[j]? with
  | none => simp
  | some p =>
   have := hv p (List.mem_of_getElem? hj)
   unfold Num at this
   simp
   omega
 have z : (0 : Int) <= 0 := Int.le_refl 0
 have tl : ∀ a, 0 <= (toldL l a).key /\ 0 <= (toldL l a).val := fun a => by
  unfold toldL
  split
  ·rename_i h
   have hm : l[a.toNat]'(by omega) ∈ l := List.getElem_mem _
   have h1 := mapRight_in l hr _ hm
   have h2 := hv _ hm
   unfold Num at h2
   exact ⟨h1.1, h2.1⟩
  ·exact ⟨z, z⟩
 have hput : 0 <= (putL l key val).2.key /\ 0 <= (putL l key val).2.val := by
  unfold putL
  split
  ·exact ⟨z, z⟩
  ·split
   ·exact ⟨z, z⟩
   ·exact ⟨z, z⟩
 unfold doA
 rw [if_pos hr]
 unfold doL
 repeat' split
 all_goals first
  | exact hput
  | exact tl _
  | exact ⟨z, z⟩
  | exact ⟨z, hgv _⟩
  | exact ⟨z, Int.natCast_nonneg _⟩
theorem errB_one : errB 1 = [101, 114, 114, 111, 114, 32, 49] := by
 unfold errB
 rw [show (1 : Int) = ((1 : Nat) : Int) from rfl, Lib.itoa_nonneg, Lib.decDigits_one (by omega)]
 rfl
theorem li_put (l : List IP) (ops : List O3) (ws : List ByteArray) (v u vw : Value) (w : World) (hl : RD w ePair v l) (ho : RD w eOp u ops) (hw : RD w eStr vw ws) (hin : DkIn l ops) (hn : ops.length <= 200)
  (hss : ∀ s ∈ ws, s.size <= 9223372036854775807) (hne : ∀ s ∈ ws, s ≠ ByteArray.empty) (h0 : ws ≠ []) (hwl : ws.length <= 4294967296) (hk : kOf ws = 1) :
  Calls Tryz.prog 22 #[v, u, vw] w (LiPost (ansW l ops ws) w) := by
 obtain ⟨W1, hW1⟩ : ∃ W1, W1 = w.alloc (.cells #[.string ⟨#[112, 117, 116]⟩, .string ⟨#[103, 101, 116]⟩, .string ⟨#[99, 117, 116]⟩, .string ⟨#[110, 101, 120, 116]⟩, .string ⟨#[112, 114, 101, 118]⟩, .string ⟨#[99, 111, 117, 110, 116]⟩, .string ⟨#[110, 116, 104]⟩] 9) := ⟨_, rfl⟩
 have hk1 : Kp w W1 := by rw [hW1]; exact (Kp.refl w).alloc
 have hb1 : RD W1 eStr (.slice (some ⟨w.heap.size, 0, none⟩) 7 7) kindsB := by rw [hW1]; exact RD.block (l := kindsB) (heap_alloc_new w _) rfl (by simp [kindsB, maxLen])
 obtain ⟨A, c, rfl, hc, hcm⟩ := hw.shape
 obtain ⟨b, o, rfl, _, x0⟩ := hw.str (k := 0) (List.length_pos_iff.2 h0)
 rw [Nat.add_zero] at x0
 have hl0 : 0 < ws.length := List.length_pos_iff.2 h0
 have hl0i : (0 : Int) < (ws.length : Int) := by omega
 have d0 : decide (0 < ws.length) = true := decide_eq_true hl0
 obtain ⟨s0, hs0⟩ : ∃ s0, s0 = ws[0] := ⟨_, rfl⟩
 have hse : ws.getD 0 ByteArray.empty = ws[0] := by simp [List.getD_eq_getElem?_getD, List.getElem?_eq_getElem hl0]
 obtain ⟨K, hK⟩ : ∃ K : Int, K = kOf ws := ⟨_, rfl⟩
 have hk' : kindOf s0 = K := by rw [hs0, <- hse, hK, kOf]
 have hw0 : s0.toList = wAt ws 0 := by rw [ByteArray.toList_eq, hs0, wAt, hse]
 have hK7 : 0 <= K /\ K <= 7 := by rw [<- hk']; exact kind_in s0
 rw [<- hs0] at x0
 have x1 := hk1.cell x0
 rw [hW1] at x1
 have HX0 := hide (hk1.cell x0)
 have HI : Hid (Calls Tryz.prog 46 #[.slice (some ⟨w.heap.size, 0, none⟩) 7 7, .string s0] W1 (fun e w' => e = .returned (.int .i64 (K - 1)) /\ w' = W1)) := hide (by
  have := idx_any s0 W1 w.heap.size hb1
  rwa [hk'] at this)
 obtain ⟨ix, hix⟩ : ∃ ix : Int, ix = K - 1 := ⟨_, rfl⟩
 rw [<- hix] at HI
 have HIX := hide hix
 obtain ⟨A1, hA1⟩ : ∃ A1, (if c = 1 then some (⟨b, o, none⟩ : Addr) else some ⟨b, o + 1, none⟩) = A1 := ⟨_, rfl⟩
 have HRD1 : Hid (RD W1 eStr (.slice A1 (ws.length - 1) (c - 1)) (ws.drop 1)) := hide ((hw.kp hk1).dropS (by omega) (s := 1) rfl (by rw [Nat.mul_one]; exact hA1))
 have HL := hide (hl.kp hk1)
 have HOP := hide (ho.kp hk1)
 have HW := hide (hw.kp hk1)
 have HK1 := hide hk1
 have HKK := hide hK
 obtain ⟨Al, cl, rfl, _, _⟩ := hl.shape
 obtain ⟨Ao, co, rfl, _, _⟩ := ho.shape
 have HIN := hide hin
 have HWS := hide (And.intro hss hne)
 rw [<- hK] at hk
 clear hb1 hse hk' hs0 hl ho hw hK x0 hk1 hin hss hne hix
 subst hk
 obtain rfl : ix = 0 := by have := HIX.out; omega
 have dx := HIX.out
 have hAN := askW_nums l ops ws HWS.out.2 h0
 have HAN : Hid (ansW l ops ws = (match (askW l ops ws) with | .ok x => x | .error e => (l, ops, errB e))) := hide (by rw [ansW, if_pos (by rw [<- HKK.out]; omega)]; rfl)
 rw [<- HKK.out] at hAN
 have HNM := hide (numbersOf_any (ws.drop 1) _ W1 HRD1.out (by rw [List.length_drop]; omega) (fun s hs => HWS.out.1 s (List.mem_of_mem_drop hs)))
 have HNN := hide (fun xs h => nums_num (ws := ws.drop 1) (xs := xs) (fun s hs => HWS.out.2 s (List.mem_of_mem_drop hs)) h)
 obtain ⟨NS, hNS⟩ : ∃ NS, NS = numsF (ws.drop 1) := ⟨_, rfl⟩
 rw [<- hNS] at HNM hAN HNN
 clear hNS hw0 dx
 cases NS with
 | none =>
  have HA : Hid (ansW l ops ws = (l, ops, errB 1)) := hide (by rw [HAN.out, hAN])
  clear hAN HNN
  go_enter Tryz.func22, Tryz.ntmps22
  go_wp2_with fail
  rw [<- hW1]
  refine HI.out.mono ?_
  rintro e w1' ⟨rfl, hw1'⟩
  rw [hw1']
  clear x1 hw1' hW1
  go_wp2_with fail
  refine HNM.out.mono ?_
  rintro e w2 ⟨rfl, hk2⟩
  go_wp2
  go_ret3
  exact ⟨_, _, by rw [HA.out, errB_one]; rfl, by rw [HA.out]; exact HL.out.kp hk2, by rw [HA.out]; exact HOP.out.kp hk2, HK1.out.trans hk2⟩
 | some xs =>
  simp only [↓reduceIte] at hAN
  by_cases hlen : xs.length = 2
  ·obtain ⟨key, val, rfl⟩ : ∃ a b, xs = [a, b] := by
    match xs, hlen with
    | [a, b], _ => exact ⟨a, b, rfl⟩
   have HNB := hide (HNN.out _ rfl)
   simp only [List.length_cons, List.length_nil, Nat.reduceAdd, ↓reduceIte, List.getD_cons_zero, List.getD_cons_succ] at hAN
   clear HNN hlen
   go_enter Tryz.func22, Tryz.ntmps22
   go_wp2_with fail
   rw [<- hW1]
   refine HI.out.mono ?_
   rintro e w1' ⟨rfl, hw1'⟩
   rw [hw1']
   clear x1 hw1' hW1
   go_wp2_with fail
   refine HNM.out.mono ?_
   rintro e w2 ⟨⟨v2, rfl, hr2⟩, hk2⟩
   obtain ⟨A2, c2, rfl, hc2, _⟩ := hr2.shape
   obtain ⟨bx, ox, rfl, _, y0⟩ := hr2.int (k := 0) (by simp)
   obtain ⟨_, _, e1, _, y1⟩ := hr2.int (k := 1) (by simp)
   injection e1 with e1
   injection e1 with e1 e2
   subst e1 e2
   simp only [List.getElem_cons_zero, List.getElem_cons_succ, Nat.add_zero, List.length_cons, List.length_nil, Nat.reduceAdd] at y0 y1 ⊢
   clear hr2
   obtain ⟨p, hp⟩ : ∃ p, p = w2.heap.size := ⟨_, rfl⟩
   have z1 : (w2.alloc (.cells #[.int .i64 1, .int .i64 key, .int .i64 0] 82)).cell? ⟨bx, ox + 1, none⟩ = some (.int .i64 val) := (Kp.refl w2).alloc.cell y1
   go_wp2_with fail
   obtain ⟨W3, hW3⟩ : ∃ W3, W3 = w2.alloc (.cells #[.int .i64 1, .int .i64 key, .int .i64 val] 82) := ⟨_, rfl⟩
   have hkw3 : Kp W1 W3 := by rw [hW3]; exact hk2.alloc
   have hbp : BC W3 w2.heap.size 82 [.int .i64 1, .int .i64 key, .int .i64 val] := by rw [hW3]; exact BC.new w2 _ [.int .i64 1, .int .i64 key, .int .i64 val]
   rw [<- hp] at hbp
   rw [<- hp, <- hW3]
   have HDO := hide (done_any l 1 key val _ W3 (HL.out.kp hkw3) (mapRight_len _ HIN.out.right))
   rw [done_do _ _ _ _ HIN.out.right] at HDO
   obtain ⟨HI1, HI2, HI3⟩ := doA_in HIN.out.right HIN.out.vals 1 key val
   have HSG := hide (doA_sign HIN.out.right HIN.out.vals 1 key val)
   unfold askO at hAN
   obtain ⟨R, hR⟩ : ∃ R, doA l 1 key val = R := ⟨_, rfl⟩
   rw [hR] at HDO HI1 HI2 HI3 hAN HSG
   obtain ⟨l', er, ak, av, ai⟩ := R
   dsimp only at hAN HI1 HI2 HI3 HSG
   have HAV := hide (HI1 av (by simp))
   have HAK := hide (HI1 ak (by simp))
   have HBP := hide hbp
   have HKW := hide hkw3
   clear hR hbp hkw3 hW3 hp HI1
   refine HDO.out.mono ?_
   rintro e w4 ⟨v4, rfl, hr4, _, hb4⟩
   simp only [An.v]
   obtain ⟨A4, n4, c4, rfl⟩ := hr4.slice
   have hk4 := Kp.of hb4
   have HR4 := hide hr4
   have HBP4 := hide (HBP.out.kp hk4)
   have HKW4 := hide (HKW.out.trans hk4)
   clear hr4 hb4 hk4
   by_cases her : er = 0
   ·subst her
    have HA : Hid (ansW l ops ws = (l', ops ++ [(1, key, val)], toldS 1 ⟨0, ak, av, ai⟩)) := hide (by rw [HAN.out, hAN, if_pos rfl])
    clear hAN HI2 HI3
    obtain ⟨W5, hW5⟩ : ∃ W5, W5 = w4.alloc (.cells #[.int .i64 0, .int .i64 ak, .int .i64 av, .bool ai] 84) := ⟨_, rfl⟩
    have HKW5 : Hid (Kp w4 W5) := hide (by rw [hW5]; exact (Kp.refl w4).alloc)
    have HBC5 := hide (HBP4.out.kp HKW5.out)
    cases ai with
    | true =>
     rw [show toldS 1 ⟨0, ak, av, true⟩ = oldB from rfl] at HA
     go_wp2_with fail
     rw [<- hW5]
     have HCL := hide (fun W (k : Kp W5 W) => cloneOps_any ops _ W (HOP.out.kp ((HKW4.out.trans HKW5.out).trans k)) (by omega))
     have HM1 : Hid ((ops.length + [((1, key, val) : O3)].length) * 24 <= 140737488355328) := hide (by simp; omega)
     have HM2 : Hid (ops.length + [((1, key, val) : O3)].length <= maxLen) := hide (by simp [maxLen]; omega)
     refine wp_region_tabG (by kernel_rfl) [(123, (.slice A4 n4 c4)), (124, (.slice Ao ops.length co)), (126, .agg #[.int .i64 1, .int .i64 key, .int .i64 val]), (129, .string (bs oldB)), (6, (.slice A4 n4 c4)), (8, .string (bs oldB))] (G26 W5 ops (1, key, val)) (J26 W5 ops (1, key, val)) Option.none ⟨(Kp.refl _).drew, fun h => absurd rfl h, fun x h => (by cases h)⟩ (by kernel_rfl) (by kernel_rfl) ?_ ?_
     ·refine ⟨?_, ?_, ?_, ?_, ?_, ?_, ?_, ?_, ?_, ?_, trivial⟩
      ·intro hop L a w5 γ hs hk hl ha keep know spec
       have h16 := keep 16 ((.slice A4 n4 c4)) (by kernel_rfl) rfl
       exact wpOp_value hop (wanted_none rfl) (v := (.slice A4 n4 c4)) (by simp only [execOp, Act.eval, h16]; rfl) ⟨_, γ, rfl, hk.go (Kp.refl _) 0, (fun d hd => by injection hd with hd; subst hd; exact ⟨tab rfl, G26.none (by decide)⟩), fun _ _ _ h => h⟩
      ·intro hop L a w5 γ hs hk hl ha keep know spec
       have h1 := keep 1 ((.slice Ao ops.length co)) (by kernel_rfl) rfl
       exact wpOp_value hop (wanted_none rfl) (v := (.slice Ao ops.length co)) (by simp only [execOp, Act.eval, h1]; rfl) ⟨_, γ, rfl, hk.go (Kp.refl _) 1, (fun d hd => by injection hd with hd; subst hd; exact ⟨tab rfl, G26.none (by decide)⟩), fun _ _ _ h => h⟩
      ·intro hop L a w5 γ hs hk hl ha keep know spec
       have h124 := know 124 ((.slice Ao ops.length co)) (by kernel_rfl) rfl
       exact wpOp_call hop (wanted_none rfl) (by simp only [execOp, resolve, Act.eval, List.map_toArray, List.map_cons, List.map_nil, h124]; rfl) (HCL.out w5 hk.1) fun e w6 hR => by
        obtain ⟨v', rfl, ho, hb6⟩ := hR
        exact ⟨_, rfl, _, γ, rfl, hk.go (Kp.of hb6) 2, (fun d hd => by injection hd with hd; subst hd; exact ⟨tab_none rfl, ⟨fun _ _ => ho.more hk.1.size, fun e => by omega, fun e => by omega⟩⟩), fun _ _ _ h => h.kp (Kp.of hb6)⟩
      ·intro hop L a w5 γ hs hk hl ha keep know spec
       have h15 := keep 15 (.pointer (some ⟨p, 0, none⟩)) (by kernel_rfl) rfl
       exact wpOp_value hop (wanted_none rfl) (v := .agg #[.int .i64 1, .int .i64 key, .int .i64 val]) (by simp only [execOp, Act.eval, h15]; exact run_v (ld_op (HBC5.out.kp hk.1))) ⟨_, γ, rfl, hk.go (Kp.refl _) 3, (fun d hd => by injection hd with hd; subst hd; exact ⟨tab rfl, G26.none (by decide)⟩), fun _ _ _ h => h⟩
      ·intro hop L a w5 γ hs hk hl ha keep know spec
       have h126 := know 126 (.agg #[.int .i64 1, .int .i64 key, .int .i64 val]) (by kernel_rfl) rfl
       exact wpOp_value hop (wanted_none rfl) (v := .slice (some ⟨w5.heap.size, 0, none⟩) 1 1) (w' := w5.alloc (.cells #[.int .i64 1, .int .i64 key, .int .i64 val] 82)) (by simp only [execOp, Act.eval, List.map_toArray, List.map_cons, List.map_nil, h126]; go_simp) ⟨_, γ, rfl, hk.go (Kp.refl _).alloc 4, (fun d hd => by injection hd with hd; subst hd; exact ⟨tab_none rfl, ⟨fun e => by omega, fun _ _ => rd_one (o := (1, key, val)) (BC.new w5 _ [.int .i64 1, .int .i64 key, .int .i64 val]), fun e => by omega⟩⟩), fun _ _ _ h => h.kp (Kp.refl _).alloc⟩
      ·intro hop L a w5 γ hs hk hl ha keep know spec
       have hγ := hk.notyet hl
       have how := (spec 125 (by kernel_rfl)).1 rfl hγ
       have hrd := (spec 127 (by kernel_rfl)).2.1 rfl hγ
       obtain ⟨y1, hy1⟩ : ∃ y1, y1 = a.tmps.getD 125 undef := ⟨_, rfl⟩
       obtain ⟨y2, hy2⟩ : ∃ y2, y2 = a.tmps.getD 127 undef := ⟨_, rfl⟩
       rw [<- hy1] at how
       rw [<- hy2] at hrd
       obtain ⟨v', w', hr, hov, hgr, hat⟩ := run_app (P := Tryz.prog) 38 row_op how hrd HM1.out HM2.out hk.1.size
       exact wpOp_value hop (wanted_none rfl) (v := v') (w' := w') (run_exec_app (.tmp 125) (.tmp 127) rfl hy1.symm hy2.symm hr) ⟨_, some v', rfl, hk.app how.hi hgr hov, (fun d hd => by injection hd with hd; subst hd; exact ⟨tab_none rfl, ⟨fun e => by omega, fun e => by omega, fun _ => rfl⟩⟩), fun j u hd h => h.app (fun e => hd (by rw [e])) hγ⟩
      ·intro hop L a w5 γ hs hk hl ha keep know spec
       have h18 := keep 18 (.string (bs oldB)) (by kernel_rfl) rfl
       exact wpOp_value hop (wanted_none rfl) (v := .string (bs oldB)) (by simp only [execOp, Act.eval, h18]; rfl) ⟨_, γ, rfl, hk.go (Kp.refl _) 6, (fun d hd => by injection hd with hd; subst hd; exact ⟨tab rfl, G26.none (by decide)⟩), fun _ _ _ h => h⟩
      ·intro hop L a w5 γ hs hk hl ha keep know spec
       have h123 := know 123 ((.slice A4 n4 c4)) (by kernel_rfl) rfl
       exact wpOp_value hop (wanted_none rfl) (v := (.slice A4 n4 c4)) (by simp only [execOp, Act.eval, h123]; rfl) ⟨_, γ, rfl, hk.go (Kp.refl _) 7, (fun d hd => by injection hd with hd; subst hd; exact ⟨tab rfl, G26.none (by decide)⟩), fun _ _ _ h => h⟩
      ·intro hop L a w5 γ hs hk hl ha keep know spec
       have hG := (spec 128 (by kernel_rfl)).2.2 (.inl rfl)
       obtain ⟨x, hx⟩ : ∃ x, x = a.tmps.getD 128 undef := ⟨_, rfl⟩
       rw [<- hx] at hG
       exact wpOp_value hop (wanted_none rfl) (v := x) (by simp only [execOp, Act.eval, <- hx]; rfl) ⟨_, γ, rfl, hk.go (Kp.refl _) 8, (fun d hd => by injection hd with hd; subst hd; exact ⟨tab_none rfl, ⟨fun e => by omega, fun e => by omega, fun _ => hG⟩⟩), fun _ _ _ h => h⟩
      ·intro hop L a w5 γ hs hk hl ha keep know spec
       have h129 := know 129 (.string (bs oldB)) (by kernel_rfl) rfl
       exact wpOp_value hop (wanted_none rfl) (v := .string (bs oldB)) (by simp only [execOp, Act.eval, h129]; rfl) ⟨_, γ, rfl, hk.go (Kp.refl _) 9, (fun d hd => by injection hd with hd; subst hd; exact ⟨tab rfl, G26.none (by decide)⟩), fun _ _ _ h => h⟩
     ·intro a' w9 γ e1 e2 hk keep know spec
      obtain ⟨tm, df⟩ := a'
      have h7 := (spec 7 (by kernel_rfl)).2.2 (.inr rfl)
      have h6 := know 6 (.slice A4 n4 c4) (by kernel_rfl) rfl
      have h8 := know 8 (.string (bs oldB)) (by kernel_rfl) rfl
      have e1' : df = [] := e1
      clear keep know spec e1 e2
      subst e1'
      dsimp only at h6 h7 h8
      have hou := hk.2.2 _ h7
      obtain ⟨v7, hv7⟩ : ∃ v7, v7 = tm.getD 7 undef := ⟨_, rfl⟩
      rw [<- hv7] at hou
      have HOU := hide hou
      have HK9 := hide hk.1
      clear hk hou h7
      go_wp2
      refine bodyPost_ret (v := .tuple #[.slice A4 n4 c4, v7, .string (bs oldB)]) ?_ rfl ?_
      ·simp only [Array.getD_eq_getD_getElem?] at h6 h8 hv7
       simp [results, Tryz.results22, go_sem, h6, h8, <- hv7]
      ·show LiPost _ _ _ _
       rw [HA.out]
       exact ⟨.slice A4 n4 c4, v7, rfl, HR4.out.kp (HKW5.out.trans HK9.out), HOU.out.rd, HK1.out.trans ((HKW4.out.trans HKW5.out).trans HK9.out)⟩
    | false =>
     rw [show toldS 1 ⟨0, ak, av, false⟩ = newB from rfl] at HA
     go_wp2_with fail
     rw [<- hW5]
     have HCL := hide (fun W (k : Kp W5 W) => cloneOps_any ops _ W (HOP.out.kp ((HKW4.out.trans HKW5.out).trans k)) (by omega))
     have HM1 : Hid ((ops.length + [((1, key, val) : O3)].length) * 24 <= 140737488355328) := hide (by simp; omega)
     have HM2 : Hid (ops.length + [((1, key, val) : O3)].length <= maxLen) := hide (by simp [maxLen]; omega)
     refine wp_region_tabG (by kernel_rfl) [(123, (.slice A4 n4 c4)), (124, (.slice Ao ops.length co)), (126, .agg #[.int .i64 1, .int .i64 key, .int .i64 val]), (129, .string (bs newB)), (6, (.slice A4 n4 c4)), (8, .string (bs newB))] (G26 W5 ops (1, key, val)) (J26 W5 ops (1, key, val)) Option.none ⟨(Kp.refl _).drew, fun h => absurd rfl h, fun x h => (by cases h)⟩ (by kernel_rfl) (by kernel_rfl) ?_ ?_
     ·refine ⟨?_, ?_, ?_, ?_, ?_, ?_, ?_, ?_, ?_, ?_, trivial⟩
      ·intro hop L a w5 γ hs hk hl ha keep know spec
       have h16 := keep 16 ((.slice A4 n4 c4)) (by kernel_rfl) rfl
       exact wpOp_value hop (wanted_none rfl) (v := (.slice A4 n4 c4)) (by simp only [execOp, Act.eval, h16]; rfl) ⟨_, γ, rfl, hk.go (Kp.refl _) 0, (fun d hd => by injection hd with hd; subst hd; exact ⟨tab rfl, G26.none (by decide)⟩), fun _ _ _ h => h⟩
      ·intro hop L a w5 γ hs hk hl ha keep know spec
       have h1 := keep 1 ((.slice Ao ops.length co)) (by kernel_rfl) rfl
       exact wpOp_value hop (wanted_none rfl) (v := (.slice Ao ops.length co)) (by simp only [execOp, Act.eval, h1]; rfl) ⟨_, γ, rfl, hk.go (Kp.refl _) 1, (fun d hd => by injection hd with hd; subst hd; exact ⟨tab rfl, G26.none (by decide)⟩), fun _ _ _ h => h⟩
      ·intro hop L a w5 γ hs hk hl ha keep know spec
       have h124 := know 124 ((.slice Ao ops.length co)) (by kernel_rfl) rfl
       exact wpOp_call hop (wanted_none rfl) (by simp only [execOp, resolve, Act.eval, List.map_toArray, List.map_cons, List.map_nil, h124]; rfl) (HCL.out w5 hk.1) fun e w6 hR => by
        obtain ⟨v', rfl, ho, hb6⟩ := hR
        exact ⟨_, rfl, _, γ, rfl, hk.go (Kp.of hb6) 2, (fun d hd => by injection hd with hd; subst hd; exact ⟨tab_none rfl, ⟨fun _ _ => ho.more hk.1.size, fun e => by omega, fun e => by omega⟩⟩), fun _ _ _ h => h.kp (Kp.of hb6)⟩
      ·intro hop L a w5 γ hs hk hl ha keep know spec
       have h15 := keep 15 (.pointer (some ⟨p, 0, none⟩)) (by kernel_rfl) rfl
       exact wpOp_value hop (wanted_none rfl) (v := .agg #[.int .i64 1, .int .i64 key, .int .i64 val]) (by simp only [execOp, Act.eval, h15]; exact run_v (ld_op (HBC5.out.kp hk.1))) ⟨_, γ, rfl, hk.go (Kp.refl _) 3, (fun d hd => by injection hd with hd; subst hd; exact ⟨tab rfl, G26.none (by decide)⟩), fun _ _ _ h => h⟩
      ·intro hop L a w5 γ hs hk hl ha keep know spec
       have h126 := know 126 (.agg #[.int .i64 1, .int .i64 key, .int .i64 val]) (by kernel_rfl) rfl
       exact wpOp_value hop (wanted_none rfl) (v := .slice (some ⟨w5.heap.size, 0, none⟩) 1 1) (w' := w5.alloc (.cells #[.int .i64 1, .int .i64 key, .int .i64 val] 82)) (by simp only [execOp, Act.eval, List.map_toArray, List.map_cons, List.map_nil, h126]; go_simp) ⟨_, γ, rfl, hk.go (Kp.refl _).alloc 4, (fun d hd => by injection hd with hd; subst hd; exact ⟨tab_none rfl, ⟨fun e => by omega, fun _ _ => rd_one (o := (1, key, val)) (BC.new w5 _ [.int .i64 1, .int .i64 key, .int .i64 val]), fun e => by omega⟩⟩), fun _ _ _ h => h.kp (Kp.refl _).alloc⟩
      ·intro hop L a w5 γ hs hk hl ha keep know spec
       have hγ := hk.notyet hl
       have how := (spec 125 (by kernel_rfl)).1 rfl hγ
       have hrd := (spec 127 (by kernel_rfl)).2.1 rfl hγ
       obtain ⟨y1, hy1⟩ : ∃ y1, y1 = a.tmps.getD 125 undef := ⟨_, rfl⟩
       obtain ⟨y2, hy2⟩ : ∃ y2, y2 = a.tmps.getD 127 undef := ⟨_, rfl⟩
       rw [<- hy1] at how
       rw [<- hy2] at hrd
       obtain ⟨v', w', hr, hov, hgr, hat⟩ := run_app (P := Tryz.prog) 38 row_op how hrd HM1.out HM2.out hk.1.size
       exact wpOp_value hop (wanted_none rfl) (v := v') (w' := w') (run_exec_app (.tmp 125) (.tmp 127) rfl hy1.symm hy2.symm hr) ⟨_, some v', rfl, hk.app how.hi hgr hov, (fun d hd => by injection hd with hd; subst hd; exact ⟨tab_none rfl, ⟨fun e => by omega, fun e => by omega, fun _ => rfl⟩⟩), fun j u hd h => h.app (fun e => hd (by rw [e])) hγ⟩
      ·intro hop L a w5 γ hs hk hl ha keep know spec
       have h18 := keep 18 (.string (bs newB)) (by kernel_rfl) rfl
       exact wpOp_value hop (wanted_none rfl) (v := .string (bs newB)) (by simp only [execOp, Act.eval, h18]; rfl) ⟨_, γ, rfl, hk.go (Kp.refl _) 6, (fun d hd => by injection hd with hd; subst hd; exact ⟨tab rfl, G26.none (by decide)⟩), fun _ _ _ h => h⟩
      ·intro hop L a w5 γ hs hk hl ha keep know spec
       have h123 := know 123 ((.slice A4 n4 c4)) (by kernel_rfl) rfl
       exact wpOp_value hop (wanted_none rfl) (v := (.slice A4 n4 c4)) (by simp only [execOp, Act.eval, h123]; rfl) ⟨_, γ, rfl, hk.go (Kp.refl _) 7, (fun d hd => by injection hd with hd; subst hd; exact ⟨tab rfl, G26.none (by decide)⟩), fun _ _ _ h => h⟩
      ·intro hop L a w5 γ hs hk hl ha keep know spec
       have hG := (spec 128 (by kernel_rfl)).2.2 (.inl rfl)
       obtain ⟨x, hx⟩ : ∃ x, x = a.tmps.getD 128 undef := ⟨_, rfl⟩
       rw [<- hx] at hG
       exact wpOp_value hop (wanted_none rfl) (v := x) (by simp only [execOp, Act.eval, <- hx]; rfl) ⟨_, γ, rfl, hk.go (Kp.refl _) 8, (fun d hd => by injection hd with hd; subst hd; exact ⟨tab_none rfl, ⟨fun e => by omega, fun e => by omega, fun _ => hG⟩⟩), fun _ _ _ h => h⟩
      ·intro hop L a w5 γ hs hk hl ha keep know spec
       have h129 := know 129 (.string (bs newB)) (by kernel_rfl) rfl
       exact wpOp_value hop (wanted_none rfl) (v := .string (bs newB)) (by simp only [execOp, Act.eval, h129]; rfl) ⟨_, γ, rfl, hk.go (Kp.refl _) 9, (fun d hd => by injection hd with hd; subst hd; exact ⟨tab rfl, G26.none (by decide)⟩), fun _ _ _ h => h⟩
     ·intro a' w9 γ e1 e2 hk keep know spec
      obtain ⟨tm, df⟩ := a'
      have h7 := (spec 7 (by kernel_rfl)).2.2 (.inr rfl)
      have h6 := know 6 (.slice A4 n4 c4) (by kernel_rfl) rfl
      have h8 := know 8 (.string (bs newB)) (by kernel_rfl) rfl
      have e1' : df = [] := e1
      clear keep know spec e1 e2
      subst e1'
      dsimp only at h6 h7 h8
      have hou := hk.2.2 _ h7
      obtain ⟨v7, hv7⟩ : ∃ v7, v7 = tm.getD 7 undef := ⟨_, rfl⟩
      rw [<- hv7] at hou
      have HOU := hide hou
      have HK9 := hide hk.1
      clear hk hou h7
      go_wp2
      refine bodyPost_ret (v := .tuple #[.slice A4 n4 c4, v7, .string (bs newB)]) ?_ rfl ?_
      ·simp only [Array.getD_eq_getD_getElem?] at h6 h8 hv7
       simp [results, Tryz.results22, go_sem, h6, h8, <- hv7]
      ·show LiPost _ _ _ _
       rw [HA.out]
       exact ⟨.slice A4 n4 c4, v7, rfl, HR4.out.kp (HKW5.out.trans HK9.out), HOU.out.rd, HK1.out.trans ((HKW4.out.trans HKW5.out).trans HK9.out)⟩
   ·have HA : Hid (ansW l ops ws = (l, ops, errB er)) := hide (by rw [HAN.out, hAN, if_neg her])
    have hDI := hide (fun W => dig_any er W HI2 (by omega))
    have hlen := Lib.itoa_length_le er (by omega) (by omega)
    obtain ⟨il, hil⟩ : ∃ il, Lib.itoa er = il := ⟨_, rfl⟩
    have HEB : Hid (errB er = [101, 114, 114, 111, 114, 32] ++ il) := hide (by rw [errB, hil])
    rw [hil] at hDI hlen
    have hb6 : ¬ (9223372036854775807 < 6 + ((bs il).size : Int)) := by rw [bs_size]; omega
    have ber : (er == 0) = false := beq_eq_false_iff_ne.2 her
    clear hAN HI2 HI3 hlen hil
    go_wp2_with fail
    refine (hDI.out _).mono ?_
    rintro e w5 ⟨rfl, hw5⟩
    have hk5 : Kp w4 w5 := by rw [<- hw5]; exact (Kp.refl w4).alloc
    clear hw5
    go_wp2
    go_ret3
    refine ⟨_, _, ?_, by rw [HA.out]; exact HL.out.kp (HKW4.out.trans hk5), by rw [HA.out]; exact HOP.out.kp (HKW4.out.trans hk5), HK1.out.trans (HKW4.out.trans hk5)⟩
    rw [HA.out, HEB.out, <- bs_app]
    rfl
  ·have HA : Hid (ansW l ops ws = (l, ops, errB 1)) := hide (by rw [HAN.out, hAN, if_neg hlen])
   have bl : ((xs.length : Int) == 2) = false := beq_eq_false_iff_ne.2 (by omega)
   clear hAN HNN hlen
   go_enter Tryz.func22, Tryz.ntmps22
   go_wp2_with fail
   rw [<- hW1]
   refine HI.out.mono ?_
   rintro e w1' ⟨rfl, hw1'⟩
   rw [hw1']
   clear x1 hw1' hW1
   go_wp2_with fail
   refine HNM.out.mono ?_
   rintro e w2 ⟨⟨v2, rfl, hr2⟩, hk2⟩
   obtain ⟨A2, c2, rfl, hc2, _⟩ := hr2.shape
   clear hr2
   go_wp2
   go_ret3
   exact ⟨_, _, by rw [HA.out, errB_one]; rfl, by rw [HA.out]; exact HL.out.kp hk2, by rw [HA.out]; exact HOP.out.kp hk2, HK1.out.trans hk2⟩
theorem li_else (l : List IP) (ops : List O3) (ws : List ByteArray) (v u vw : Value) (w : World) (hl : RD w ePair v l) (ho : RD w eOp u ops) (hw : RD w eStr vw ws) (hin : DkIn l ops) (hn : ops.length <= 200)
  (hss : ∀ s ∈ ws, s.size <= 9223372036854775807) (hne : ∀ s ∈ ws, s ≠ ByteArray.empty) (h0 : ws ≠ []) (hwl : ws.length <= 4294967296) (hk : 1 < kOf ws) :
  Calls Tryz.prog 22 #[v, u, vw] w (LiPost (ansW l ops ws) w) := by
 obtain ⟨W1, hW1⟩ : ∃ W1, W1 = w.alloc (.cells #[.string ⟨#[112, 117, 116]⟩, .string ⟨#[103, 101, 116]⟩, .string ⟨#[99, 117, 116]⟩, .string ⟨#[110, 101, 120, 116]⟩, .string ⟨#[112, 114, 101, 118]⟩, .string ⟨#[99, 111, 117, 110, 116]⟩, .string ⟨#[110, 116, 104]⟩] 9) := ⟨_, rfl⟩
 have hk1 : Kp w W1 := by rw [hW1]; exact (Kp.refl w).alloc
 have hb1 : RD W1 eStr (.slice (some ⟨w.heap.size, 0, none⟩) 7 7) kindsB := by rw [hW1]; exact RD.block (l := kindsB) (heap_alloc_new w _) rfl (by simp [kindsB, maxLen])
 obtain ⟨A, c, rfl, hc, hcm⟩ := hw.shape
 obtain ⟨b, o, rfl, _, x0⟩ := hw.str (k := 0) (List.length_pos_iff.2 h0)
 rw [Nat.add_zero] at x0
 have hl0 : 0 < ws.length := List.length_pos_iff.2 h0
 have hl0i : (0 : Int) < (ws.length : Int) := by omega
 have d0 : decide (0 < ws.length) = true := decide_eq_true hl0
 obtain ⟨s0, hs0⟩ : ∃ s0, s0 = ws[0] := ⟨_, rfl⟩
 have hse : ws.getD 0 ByteArray.empty = ws[0] := by simp [List.getD_eq_getElem?_getD, List.getElem?_eq_getElem hl0]
 obtain ⟨K, hK⟩ : ∃ K : Int, K = kOf ws := ⟨_, rfl⟩
 have hk' : kindOf s0 = K := by rw [hs0, <- hse, hK, kOf]
 have hw0 : s0.toList = wAt ws 0 := by rw [ByteArray.toList_eq, hs0, wAt, hse]
 have hK7 : 0 <= K /\ K <= 7 := by rw [<- hk']; exact kind_in s0
 rw [<- hs0] at x0
 have x1 := hk1.cell x0
 rw [hW1] at x1
 have HX0 := hide (hk1.cell x0)
 have HI : Hid (Calls Tryz.prog 46 #[.slice (some ⟨w.heap.size, 0, none⟩) 7 7, .string s0] W1 (fun e w' => e = .returned (.int .i64 (K - 1)) /\ w' = W1)) := hide (by
  have := idx_any s0 W1 w.heap.size hb1
  rwa [hk'] at this)
 obtain ⟨ix, hix⟩ : ∃ ix : Int, ix = K - 1 := ⟨_, rfl⟩
 rw [<- hix] at HI
 have HIX := hide hix
 obtain ⟨A1, hA1⟩ : ∃ A1, (if c = 1 then some (⟨b, o, none⟩ : Addr) else some ⟨b, o + 1, none⟩) = A1 := ⟨_, rfl⟩
 have HRD1 : Hid (RD W1 eStr (.slice A1 (ws.length - 1) (c - 1)) (ws.drop 1)) := hide ((hw.kp hk1).dropS (by omega) (s := 1) rfl (by rw [Nat.mul_one]; exact hA1))
 have HL := hide (hl.kp hk1)
 have HOP := hide (ho.kp hk1)
 have HW := hide (hw.kp hk1)
 have HK1 := hide hk1
 have HKK := hide hK
 obtain ⟨Al, cl, rfl, _, _⟩ := hl.shape
 obtain ⟨Ao, co, rfl, _, _⟩ := ho.shape
 have HIN := hide hin
 have HWS := hide (And.intro hss hne)
 rw [<- hK] at hk
 clear hb1 hse hk' hs0 hl ho hw hK x0 hk1 hin hss hne hix
 obtain rfl : K = ix + 1 := by have := HIX.out; omega
 have hx0 : 0 < ix := by omega
 have hx6 : ix <= 6 := by omega
 have b0 : (ix == 0) = false := beq_eq_false_iff_ne.2 (by omega)
 have d00 : decide (0 <= ix) = true := decide_eq_true (by omega)
 clear hK7 hk
 have dx := HIX.out
 have hAN := askW_nums l ops ws HWS.out.2 h0
 have HAN : Hid (ansW l ops ws = (match (askW l ops ws) with | .ok x => x | .error e => (l, ops, errB e))) := hide (by rw [ansW, if_pos (by rw [<- HKK.out]; omega)]; rfl)
 rw [<- HKK.out] at hAN
 have HNM := hide (numbersOf_any (ws.drop 1) _ W1 HRD1.out (by rw [List.length_drop]; omega) (fun s hs => HWS.out.1 s (List.mem_of_mem_drop hs)))
 have HNN := hide (fun xs h => nums_num (ws := ws.drop 1) (xs := xs) (fun s hs => HWS.out.2 s (List.mem_of_mem_drop hs)) h)
 obtain ⟨NS, hNS⟩ : ∃ NS, NS = numsF (ws.drop 1) := ⟨_, rfl⟩
 rw [<- hNS] at HNM hAN HNN
 clear hNS hw0 dx
 have hn1 : ¬ (ix + 1 = 1) := by omega
 cases NS with
 | none =>
  have HA : Hid (ansW l ops ws = (l, ops, errB 1)) := hide (by rw [HAN.out, hAN])
  clear hAN HNN
  go_enter Tryz.func22, Tryz.ntmps22
  go_wp2_with fail
  rw [<- hW1]
  refine HI.out.mono ?_
  rintro e w1' ⟨rfl, hw1'⟩
  rw [hw1']
  clear x1 hw1' hW1
  go_wp2_with fail
  refine HNM.out.mono ?_
  rintro e w2 ⟨rfl, hk2⟩
  go_wp2
  go_ret3
  exact ⟨_, _, by rw [HA.out, errB_one]; rfl, by rw [HA.out]; exact HL.out.kp hk2, by rw [HA.out]; exact HOP.out.kp hk2, HK1.out.trans hk2⟩
 | some xs =>
  simp only [if_neg hn1] at hAN
  by_cases hlen : xs.length = 1
  ·obtain ⟨key, rfl⟩ : ∃ a, xs = [a] := by
    match xs, hlen with
    | [a], _ => exact ⟨a, rfl⟩
   have HNB := hide (HNN.out _ rfl)
   simp only [List.length_cons, List.length_nil, Nat.reduceAdd, ↓reduceIte, List.getD_cons_zero, List.getD_cons_succ] at hAN
   clear HNN hlen
   go_enter Tryz.func22, Tryz.ntmps22
   go_wp2_with fail
   rw [<- hW1]
   refine HI.out.mono ?_
   rintro e w1' ⟨rfl, hw1'⟩
   rw [hw1']
   clear x1 hw1' hW1
   go_wp2_with fail
   refine HNM.out.mono ?_
   rintro e w2 ⟨⟨v2, rfl, hr2⟩, hk2⟩
   obtain ⟨A2, c2, rfl, hc2, _⟩ := hr2.shape
   obtain ⟨bx, ox, rfl, _, y0⟩ := hr2.int (k := 0) (by simp)
   simp only [List.getElem_cons_zero, List.getElem_cons_succ, Nat.add_zero, List.length_cons, List.length_nil, Nat.reduceAdd] at y0 ⊢
   clear hr2
   obtain ⟨p, hp⟩ : ∃ p, p = w2.heap.size := ⟨_, rfl⟩
   go_wp2_with fail
   obtain ⟨W3, hW3⟩ : ∃ W3, W3 = w2.alloc (.cells #[.int .i64 (ix + 1), .int .i64 key, .int .i64 0] 82) := ⟨_, rfl⟩
   have hkw3 : Kp W1 W3 := by rw [hW3]; exact hk2.alloc
   have hbp : BC W3 w2.heap.size 82 [.int .i64 (ix + 1), .int .i64 key, .int .i64 0] := by rw [hW3]; exact BC.new w2 _ [.int .i64 (ix + 1), .int .i64 key, .int .i64 0]
   rw [<- hp] at hbp
   rw [<- hp, <- hW3]
   have HDO := hide (done_any l (ix + 1) key 0 _ W3 (HL.out.kp hkw3) (mapRight_len _ HIN.out.right))
   rw [done_do _ _ _ _ HIN.out.right] at HDO
   obtain ⟨HI1, HI2, HI3⟩ := doA_in HIN.out.right HIN.out.vals (ix + 1) key 0
   have HSG := hide (doA_sign HIN.out.right HIN.out.vals (ix + 1) key 0)
   unfold askO at hAN
   obtain ⟨R, hR⟩ : ∃ R, doA l (ix + 1) key 0 = R := ⟨_, rfl⟩
   rw [hR] at HDO HI1 HI2 HI3 hAN HSG
   obtain ⟨l', er, ak, av, ai⟩ := R
   dsimp only at hAN HI1 HI2 HI3 HSG
   have HAV := hide (HI1 av (by simp))
   have HAK := hide (HI1 ak (by simp))
   have HBP := hide hbp
   have HKW := hide hkw3
   clear hR hbp hkw3 hW3 hp HI1
   refine HDO.out.mono ?_
   rintro e w4 ⟨v4, rfl, hr4, _, hb4⟩
   simp only [An.v]
   obtain ⟨A4, n4, c4, rfl⟩ := hr4.slice
   have hk4 := Kp.of hb4
   have HR4 := hide hr4
   have HBP4 := hide (HBP.out.kp hk4)
   have HKW4 := hide (HKW.out.trans hk4)
   clear hr4 hb4 hk4
   by_cases her : er = 0
   ·subst her
    have HA : Hid (ansW l ops ws = (l', ops ++ [((ix + 1), key, 0)], toldS (ix + 1) ⟨0, ak, av, ai⟩)) := hide (by rw [HAN.out, hAN, if_pos rfl])
    clear hAN HI2 HI3
    obtain ⟨W5, hW5⟩ : ∃ W5, W5 = w4.alloc (.cells #[.int .i64 0, .int .i64 ak, .int .i64 av, .bool ai] 84) := ⟨_, rfl⟩
    have HKW5 : Hid (Kp w4 W5) := hide (by rw [hW5]; exact (Kp.refl w4).alloc)
    have HBC5 := hide (HBP4.out.kp HKW5.out)
    by_cases h5 : ix = 5
    ·have HS : Hid (toldS (ix + 1) ⟨0, ak, av, ai⟩ = Lib.itoa av) := hide (by rw [toldS, if_neg hn1, if_pos (by omega)])
     rw [HS.out] at HA
     have b5 : (ix == 5) = true := beq_iff_eq.2 h5
     clear h5
     have hDI := hide (fun W => dig_any av W HSG.out.2 HAV.out.2)
     go_wp2_with fail
     rw [<- hW5]
     refine (hDI.out _).mono ?_
     rintro e w5 ⟨rfl, hw5⟩
     rw [<- hw5]
     clear hw5
     go_wp2_with fail
     rw [<- hW5]
     have HCL := hide (fun W (k : Kp W5 W) => cloneOps_any ops _ W (HOP.out.kp ((HKW4.out.trans HKW5.out).trans k)) (by omega))
     have HM1 : Hid ((ops.length + [(((ix + 1), key, 0) : O3)].length) * 24 <= 140737488355328) := hide (by simp; omega)
     have HM2 : Hid (ops.length + [(((ix + 1), key, 0) : O3)].length <= maxLen) := hide (by simp [maxLen]; omega)
     refine wp_region_tabG (by kernel_rfl) [(123, (.slice A4 n4 c4)), (124, (.slice Ao ops.length co)), (126, .agg #[.int .i64 (ix + 1), .int .i64 key, .int .i64 0]), (129, .string (bs (Lib.itoa av))), (6, (.slice A4 n4 c4)), (8, .string (bs (Lib.itoa av)))] (G26 W5 ops ((ix + 1), key, 0)) (J26 W5 ops ((ix + 1), key, 0)) Option.none ⟨(Kp.refl _).drew, fun h => absurd rfl h, fun x h => (by cases h)⟩ (by kernel_rfl) (by kernel_rfl) ?_ ?_
     ·refine ⟨?_, ?_, ?_, ?_, ?_, ?_, ?_, ?_, ?_, ?_, trivial⟩
      ·intro hop L a w5 γ hs hk hl ha keep know spec
       have h16 := keep 16 ((.slice A4 n4 c4)) (by kernel_rfl) rfl
       exact wpOp_value hop (wanted_none rfl) (v := (.slice A4 n4 c4)) (by simp only [execOp, Act.eval, h16]; rfl) ⟨_, γ, rfl, hk.go (Kp.refl _) 0, (fun d hd => by injection hd with hd; subst hd; exact ⟨tab rfl, G26.none (by decide)⟩), fun _ _ _ h => h⟩
      ·intro hop L a w5 γ hs hk hl ha keep know spec
       have h1 := keep 1 ((.slice Ao ops.length co)) (by kernel_rfl) rfl
       exact wpOp_value hop (wanted_none rfl) (v := (.slice Ao ops.length co)) (by simp only [execOp, Act.eval, h1]; rfl) ⟨_, γ, rfl, hk.go (Kp.refl _) 1, (fun d hd => by injection hd with hd; subst hd; exact ⟨tab rfl, G26.none (by decide)⟩), fun _ _ _ h => h⟩
      ·intro hop L a w5 γ hs hk hl ha keep know spec
       have h124 := know 124 ((.slice Ao ops.length co)) (by kernel_rfl) rfl
       exact wpOp_call hop (wanted_none rfl) (by simp only [execOp, resolve, Act.eval, List.map_toArray, List.map_cons, List.map_nil, h124]; rfl) (HCL.out w5 hk.1) fun e w6 hR => by
        obtain ⟨v', rfl, ho, hb6⟩ := hR
        exact ⟨_, rfl, _, γ, rfl, hk.go (Kp.of hb6) 2, (fun d hd => by injection hd with hd; subst hd; exact ⟨tab_none rfl, ⟨fun _ _ => ho.more hk.1.size, fun e => by omega, fun e => by omega⟩⟩), fun _ _ _ h => h.kp (Kp.of hb6)⟩
      ·intro hop L a w5 γ hs hk hl ha keep know spec
       have h15 := keep 15 (.pointer (some ⟨p, 0, none⟩)) (by kernel_rfl) rfl
       exact wpOp_value hop (wanted_none rfl) (v := .agg #[.int .i64 (ix + 1), .int .i64 key, .int .i64 0]) (by simp only [execOp, Act.eval, h15]; exact run_v (ld_op (HBC5.out.kp hk.1))) ⟨_, γ, rfl, hk.go (Kp.refl _) 3, (fun d hd => by injection hd with hd; subst hd; exact ⟨tab rfl, G26.none (by decide)⟩), fun _ _ _ h => h⟩
      ·intro hop L a w5 γ hs hk hl ha keep know spec
       have h126 := know 126 (.agg #[.int .i64 (ix + 1), .int .i64 key, .int .i64 0]) (by kernel_rfl) rfl
       exact wpOp_value hop (wanted_none rfl) (v := .slice (some ⟨w5.heap.size, 0, none⟩) 1 1) (w' := w5.alloc (.cells #[.int .i64 (ix + 1), .int .i64 key, .int .i64 0] 82)) (by simp only [execOp, Act.eval, List.map_toArray, List.map_cons, List.map_nil, h126]; go_simp) ⟨_, γ, rfl, hk.go (Kp.refl _).alloc 4, (fun d hd => by injection hd with hd; subst hd; exact ⟨tab_none rfl, ⟨fun e => by omega, fun _ _ => rd_one (o := ((ix + 1), key, 0)) (BC.new w5 _ [.int .i64 (ix + 1), .int .i64 key, .int .i64 0]), fun e => by omega⟩⟩), fun _ _ _ h => h.kp (Kp.refl _).alloc⟩
      ·intro hop L a w5 γ hs hk hl ha keep know spec
       have hγ := hk.notyet hl
       have how := (spec 125 (by kernel_rfl)).1 rfl hγ
       have hrd := (spec 127 (by kernel_rfl)).2.1 rfl hγ
       obtain ⟨y1, hy1⟩ : ∃ y1, y1 = a.tmps.getD 125 undef := ⟨_, rfl⟩
       obtain ⟨y2, hy2⟩ : ∃ y2, y2 = a.tmps.getD 127 undef := ⟨_, rfl⟩
       rw [<- hy1] at how
       rw [<- hy2] at hrd
       obtain ⟨v', w', hr, hov, hgr, hat⟩ := run_app (P := Tryz.prog) 38 row_op how hrd HM1.out HM2.out hk.1.size
       exact wpOp_value hop (wanted_none rfl) (v := v') (w' := w') (run_exec_app (.tmp 125) (.tmp 127) rfl hy1.symm hy2.symm hr) ⟨_, some v', rfl, hk.app how.hi hgr hov, (fun d hd => by injection hd with hd; subst hd; exact ⟨tab_none rfl, ⟨fun e => by omega, fun e => by omega, fun _ => rfl⟩⟩), fun j u hd h => h.app (fun e => hd (by rw [e])) hγ⟩
      ·intro hop L a w5 γ hs hk hl ha keep know spec
       have h18 := keep 18 (.string (bs (Lib.itoa av))) (by kernel_rfl) rfl
       exact wpOp_value hop (wanted_none rfl) (v := .string (bs (Lib.itoa av))) (by simp only [execOp, Act.eval, h18]; rfl) ⟨_, γ, rfl, hk.go (Kp.refl _) 6, (fun d hd => by injection hd with hd; subst hd; exact ⟨tab rfl, G26.none (by decide)⟩), fun _ _ _ h => h⟩
      ·intro hop L a w5 γ hs hk hl ha keep know spec
       have h123 := know 123 ((.slice A4 n4 c4)) (by kernel_rfl) rfl
       exact wpOp_value hop (wanted_none rfl) (v := (.slice A4 n4 c4)) (by simp only [execOp, Act.eval, h123]; rfl) ⟨_, γ, rfl, hk.go (Kp.refl _) 7, (fun d hd => by injection hd with hd; subst hd; exact ⟨tab rfl, G26.none (by decide)⟩), fun _ _ _ h => h⟩
      ·intro hop L a w5 γ hs hk hl ha keep know spec
       have hG := (spec 128 (by kernel_rfl)).2.2 (.inl rfl)
       obtain ⟨x, hx⟩ : ∃ x, x = a.tmps.getD 128 undef := ⟨_, rfl⟩
       rw [<- hx] at hG
       exact wpOp_value hop (wanted_none rfl) (v := x) (by simp only [execOp, Act.eval, <- hx]; rfl) ⟨_, γ, rfl, hk.go (Kp.refl _) 8, (fun d hd => by injection hd with hd; subst hd; exact ⟨tab_none rfl, ⟨fun e => by omega, fun e => by omega, fun _ => hG⟩⟩), fun _ _ _ h => h⟩
      ·intro hop L a w5 γ hs hk hl ha keep know spec
       have h129 := know 129 (.string (bs (Lib.itoa av))) (by kernel_rfl) rfl
       exact wpOp_value hop (wanted_none rfl) (v := .string (bs (Lib.itoa av))) (by simp only [execOp, Act.eval, h129]; rfl) ⟨_, γ, rfl, hk.go (Kp.refl _) 9, (fun d hd => by injection hd with hd; subst hd; exact ⟨tab rfl, G26.none (by decide)⟩), fun _ _ _ h => h⟩
     ·intro a' w9 γ e1 e2 hk keep know spec
      obtain ⟨tm, df⟩ := a'
      have h7 := (spec 7 (by kernel_rfl)).2.2 (.inr rfl)
      have h6 := know 6 (.slice A4 n4 c4) (by kernel_rfl) rfl
      have h8 := know 8 (.string (bs (Lib.itoa av))) (by kernel_rfl) rfl
      have e1' : df = [] := e1
      clear keep know spec e1 e2
      subst e1'
      dsimp only at h6 h7 h8
      have hou := hk.2.2 _ h7
      obtain ⟨v7, hv7⟩ : ∃ v7, v7 = tm.getD 7 undef := ⟨_, rfl⟩
      rw [<- hv7] at hou
      have HOU := hide hou
      have HK9 := hide hk.1
      clear hk hou h7
      go_wp2
      refine bodyPost_ret (v := .tuple #[.slice A4 n4 c4, v7, .string (bs (Lib.itoa av))]) ?_ rfl ?_
      ·simp only [Array.getD_eq_getD_getElem?] at h6 h8 hv7
       simp [results, Tryz.results22, go_sem, h6, h8, <- hv7]
      ·show LiPost _ _ _ _
       rw [HA.out]
       exact ⟨.slice A4 n4 c4, v7, rfl, HR4.out.kp (HKW5.out.trans HK9.out), HOU.out.rd, HK1.out.trans ((HKW4.out.trans HKW5.out).trans HK9.out)⟩
    ·have b5 : (ix == 5) = false := beq_eq_false_iff_ne.2 h5
     cases ai with
     | false =>
      have HS : Hid (toldS (ix + 1) ⟨0, ak, av, false⟩ = noneB) := hide (by rw [toldS, if_neg hn1, if_neg (by omega), if_pos rfl])
      rw [HS.out] at HA
      go_wp2_with fail
      rw [<- hW5]
      have HCL := hide (fun W (k : Kp W5 W) => cloneOps_any ops _ W (HOP.out.kp ((HKW4.out.trans HKW5.out).trans k)) (by omega))
      have HM1 : Hid ((ops.length + [(((ix + 1), key, 0) : O3)].length) * 24 <= 140737488355328) := hide (by simp; omega)
      have HM2 : Hid (ops.length + [(((ix + 1), key, 0) : O3)].length <= maxLen) := hide (by simp [maxLen]; omega)
      refine wp_region_tabG (by kernel_rfl) [(123, (.slice A4 n4 c4)), (124, (.slice Ao ops.length co)), (126, .agg #[.int .i64 (ix + 1), .int .i64 key, .int .i64 0]), (129, .string (bs noneB)), (6, (.slice A4 n4 c4)), (8, .string (bs noneB))] (G26 W5 ops ((ix + 1), key, 0)) (J26 W5 ops ((ix + 1), key, 0)) Option.none ⟨(Kp.refl _).drew, fun h => absurd rfl h, fun x h => (by cases h)⟩ (by kernel_rfl) (by kernel_rfl) ?_ ?_
      ·refine ⟨?_, ?_, ?_, ?_, ?_, ?_, ?_, ?_, ?_, ?_, trivial⟩
       ·intro hop L a w5 γ hs hk hl ha keep know spec
        have h16 := keep 16 ((.slice A4 n4 c4)) (by kernel_rfl) rfl
        exact wpOp_value hop (wanted_none rfl) (v := (.slice A4 n4 c4)) (by simp only [execOp, Act.eval, h16]; rfl) ⟨_, γ, rfl, hk.go (Kp.refl _) 0, (fun d hd => by injection hd with hd; subst hd; exact ⟨tab rfl, G26.none (by decide)⟩), fun _ _ _ h => h⟩
       ·intro hop L a w5 γ hs hk hl ha keep know spec
        have h1 := keep 1 ((.slice Ao ops.length co)) (by kernel_rfl) rfl
        exact wpOp_value hop (wanted_none rfl) (v := (.slice Ao ops.length co)) (by simp only [execOp, Act.eval, h1]; rfl) ⟨_, γ, rfl, hk.go (Kp.refl _) 1, (fun d hd => by injection hd with hd; subst hd; exact ⟨tab rfl, G26.none (by decide)⟩), fun _ _ _ h => h⟩
       ·intro hop L a w5 γ hs hk hl ha keep know spec
        have h124 := know 124 ((.slice Ao ops.length co)) (by kernel_rfl) rfl
        exact wpOp_call hop (wanted_none rfl) (by simp only [execOp, resolve, Act.eval, List.map_toArray, List.map_cons, List.map_nil, h124]; rfl) (HCL.out w5 hk.1) fun e w6 hR => by
         obtain ⟨v', rfl, ho, hb6⟩ := hR
         exact ⟨_, rfl, _, γ, rfl, hk.go (Kp.of hb6) 2, (fun d hd => by injection hd with hd; subst hd; exact ⟨tab_none rfl, ⟨fun _ _ => ho.more hk.1.size, fun e => by omega, fun e => by omega⟩⟩), fun _ _ _ h => h.kp (Kp.of hb6)⟩
       ·intro hop L a w5 γ hs hk hl ha keep know spec
        have h15 := keep 15 (.pointer (some ⟨p, 0, none⟩)) (by kernel_rfl) rfl
        exact wpOp_value hop (wanted_none rfl) (v := .agg #[.int .i64 (ix + 1), .int .i64 key, .int .i64 0]) (by simp only [execOp, Act.eval, h15]; exact run_v (ld_op (HBC5.out.kp hk.1))) ⟨_, γ, rfl, hk.go (Kp.refl _) 3, (fun d hd => by injection hd with hd; subst hd; exact ⟨tab rfl, G26.none (by decide)⟩), fun _ _ _ h => h⟩
       ·intro hop L a w5 γ hs hk hl ha keep know spec
        have h126 := know 126 (.agg #[.int .i64 (ix + 1), .int .i64 key, .int .i64 0]) (by kernel_rfl) rfl
        exact wpOp_value hop (wanted_none rfl) (v := .slice (some ⟨w5.heap.size, 0, none⟩) 1 1) (w' := w5.alloc (.cells #[.int .i64 (ix + 1), .int .i64 key, .int .i64 0] 82)) (by simp only [execOp, Act.eval, List.map_toArray, List.map_cons, List.map_nil, h126]; go_simp) ⟨_, γ, rfl, hk.go (Kp.refl _).alloc 4, (fun d hd => by injection hd with hd; subst hd; exact ⟨tab_none rfl, ⟨fun e => by omega, fun _ _ => rd_one (o := ((ix + 1), key, 0)) (BC.new w5 _ [.int .i64 (ix + 1), .int .i64 key, .int .i64 0]), fun e => by omega⟩⟩), fun _ _ _ h => h.kp (Kp.refl _).alloc⟩
       ·intro hop L a w5 γ hs hk hl ha keep know spec
        have hγ := hk.notyet hl
        have how := (spec 125 (by kernel_rfl)).1 rfl hγ
        have hrd := (spec 127 (by kernel_rfl)).2.1 rfl hγ
        obtain ⟨y1, hy1⟩ : ∃ y1, y1 = a.tmps.getD 125 undef := ⟨_, rfl⟩
        obtain ⟨y2, hy2⟩ : ∃ y2, y2 = a.tmps.getD 127 undef := ⟨_, rfl⟩
        rw [<- hy1] at how
        rw [<- hy2] at hrd
        obtain ⟨v', w', hr, hov, hgr, hat⟩ := run_app (P := Tryz.prog) 38 row_op how hrd HM1.out HM2.out hk.1.size
        exact wpOp_value hop (wanted_none rfl) (v := v') (w' := w') (run_exec_app (.tmp 125) (.tmp 127) rfl hy1.symm hy2.symm hr) ⟨_, some v', rfl, hk.app how.hi hgr hov, (fun d hd => by injection hd with hd; subst hd; exact ⟨tab_none rfl, ⟨fun e => by omega, fun e => by omega, fun _ => rfl⟩⟩), fun j u hd h => h.app (fun e => hd (by rw [e])) hγ⟩
       ·intro hop L a w5 γ hs hk hl ha keep know spec
        have h18 := keep 18 (.string (bs noneB)) (by kernel_rfl) rfl
        exact wpOp_value hop (wanted_none rfl) (v := .string (bs noneB)) (by simp only [execOp, Act.eval, h18]; rfl) ⟨_, γ, rfl, hk.go (Kp.refl _) 6, (fun d hd => by injection hd with hd; subst hd; exact ⟨tab rfl, G26.none (by decide)⟩), fun _ _ _ h => h⟩
       ·intro hop L a w5 γ hs hk hl ha keep know spec
        have h123 := know 123 ((.slice A4 n4 c4)) (by kernel_rfl) rfl
        exact wpOp_value hop (wanted_none rfl) (v := (.slice A4 n4 c4)) (by simp only [execOp, Act.eval, h123]; rfl) ⟨_, γ, rfl, hk.go (Kp.refl _) 7, (fun d hd => by injection hd with hd; subst hd; exact ⟨tab rfl, G26.none (by decide)⟩), fun _ _ _ h => h⟩
       ·intro hop L a w5 γ hs hk hl ha keep know spec
        have hG := (spec 128 (by kernel_rfl)).2.2 (.inl rfl)
        obtain ⟨x, hx⟩ : ∃ x, x = a.tmps.getD 128 undef := ⟨_, rfl⟩
        rw [<- hx] at hG
        exact wpOp_value hop (wanted_none rfl) (v := x) (by simp only [execOp, Act.eval, <- hx]; rfl) ⟨_, γ, rfl, hk.go (Kp.refl _) 8, (fun d hd => by injection hd with hd; subst hd; exact ⟨tab_none rfl, ⟨fun e => by omega, fun e => by omega, fun _ => hG⟩⟩), fun _ _ _ h => h⟩
       ·intro hop L a w5 γ hs hk hl ha keep know spec
        have h129 := know 129 (.string (bs noneB)) (by kernel_rfl) rfl
        exact wpOp_value hop (wanted_none rfl) (v := .string (bs noneB)) (by simp only [execOp, Act.eval, h129]; rfl) ⟨_, γ, rfl, hk.go (Kp.refl _) 9, (fun d hd => by injection hd with hd; subst hd; exact ⟨tab rfl, G26.none (by decide)⟩), fun _ _ _ h => h⟩
      ·intro a' w9 γ e1 e2 hk keep know spec
       obtain ⟨tm, df⟩ := a'
       have h7 := (spec 7 (by kernel_rfl)).2.2 (.inr rfl)
       have h6 := know 6 (.slice A4 n4 c4) (by kernel_rfl) rfl
       have h8 := know 8 (.string (bs noneB)) (by kernel_rfl) rfl
       have e1' : df = [] := e1
       clear keep know spec e1 e2
       subst e1'
       dsimp only at h6 h7 h8
       have hou := hk.2.2 _ h7
       obtain ⟨v7, hv7⟩ : ∃ v7, v7 = tm.getD 7 undef := ⟨_, rfl⟩
       rw [<- hv7] at hou
       have HOU := hide hou
       have HK9 := hide hk.1
       clear hk hou h7
       go_wp2
       refine bodyPost_ret (v := .tuple #[.slice A4 n4 c4, v7, .string (bs noneB)]) ?_ rfl ?_
       ·simp only [Array.getD_eq_getD_getElem?] at h6 h8 hv7
        simp [results, Tryz.results22, go_sem, h6, h8, <- hv7]
       ·show LiPost _ _ _ _
        rw [HA.out]
        exact ⟨.slice A4 n4 c4, v7, rfl, HR4.out.kp (HKW5.out.trans HK9.out), HOU.out.rd, HK1.out.trans ((HKW4.out.trans HKW5.out).trans HK9.out)⟩
     | true =>
      by_cases h3 : ix < 3
      ·have HS : Hid (toldS (ix + 1) ⟨0, ak, av, true⟩ = Lib.itoa av) := hide (by rw [toldS, if_neg hn1, if_neg (by omega), if_neg (by simp), if_pos (by omega)])
       rw [HS.out] at HA
       have d3 : decide (ix < 3) = true := decide_eq_true h3
       have hDI := hide (fun W => dig_any av W HSG.out.2 HAV.out.2)
       go_wp2_with fail
       rw [<- hW5]
       refine (hDI.out _).mono ?_
       rintro e w5 ⟨rfl, hw5⟩
       rw [<- hw5]
       clear hw5
       go_wp2_with fail
       rw [<- hW5]
       have HCL := hide (fun W (k : Kp W5 W) => cloneOps_any ops _ W (HOP.out.kp ((HKW4.out.trans HKW5.out).trans k)) (by omega))
       have HM1 : Hid ((ops.length + [(((ix + 1), key, 0) : O3)].length) * 24 <= 140737488355328) := hide (by simp; omega)
       have HM2 : Hid (ops.length + [(((ix + 1), key, 0) : O3)].length <= maxLen) := hide (by simp [maxLen]; omega)
       refine wp_region_tabG (by kernel_rfl) [(123, (.slice A4 n4 c4)), (124, (.slice Ao ops.length co)), (126, .agg #[.int .i64 (ix + 1), .int .i64 key, .int .i64 0]), (129, .string (bs (Lib.itoa av))), (6, (.slice A4 n4 c4)), (8, .string (bs (Lib.itoa av)))] (G26 W5 ops ((ix + 1), key, 0)) (J26 W5 ops ((ix + 1), key, 0)) Option.none ⟨(Kp.refl _).drew, fun h => absurd rfl h, fun x h => (by cases h)⟩ (by kernel_rfl) (by kernel_rfl) ?_ ?_
       ·refine ⟨?_, ?_, ?_, ?_, ?_, ?_, ?_, ?_, ?_, ?_, trivial⟩
        ·intro hop L a w5 γ hs hk hl ha keep know spec
         have h16 := keep 16 ((.slice A4 n4 c4)) (by kernel_rfl) rfl
         exact wpOp_value hop (wanted_none rfl) (v := (.slice A4 n4 c4)) (by simp only [execOp, Act.eval, h16]; rfl) ⟨_, γ, rfl, hk.go (Kp.refl _) 0, (fun d hd => by injection hd with hd; subst hd; exact ⟨tab rfl, G26.none (by decide)⟩), fun _ _ _ h => h⟩
        ·intro hop L a w5 γ hs hk hl ha keep know spec
         have h1 := keep 1 ((.slice Ao ops.length co)) (by kernel_rfl) rfl
         exact wpOp_value hop (wanted_none rfl) (v := (.slice Ao ops.length co)) (by simp only [execOp, Act.eval, h1]; rfl) ⟨_, γ, rfl, hk.go (Kp.refl _) 1, (fun d hd => by injection hd with hd; subst hd; exact ⟨tab rfl, G26.none (by decide)⟩), fun _ _ _ h => h⟩
        ·intro hop L a w5 γ hs hk hl ha keep know spec
         have h124 := know 124 ((.slice Ao ops.length co)) (by kernel_rfl) rfl
         exact wpOp_call hop (wanted_none rfl) (by simp only [execOp, resolve, Act.eval, List.map_toArray, List.map_cons, List.map_nil, h124]; rfl) (HCL.out w5 hk.1) fun e w6 hR => by
          obtain ⟨v', rfl, ho, hb6⟩ := hR
          exact ⟨_, rfl, _, γ, rfl, hk.go (Kp.of hb6) 2, (fun d hd => by injection hd with hd; subst hd; exact ⟨tab_none rfl, ⟨fun _ _ => ho.more hk.1.size, fun e => by omega, fun e => by omega⟩⟩), fun _ _ _ h => h.kp (Kp.of hb6)⟩
        ·intro hop L a w5 γ hs hk hl ha keep know spec
         have h15 := keep 15 (.pointer (some ⟨p, 0, none⟩)) (by kernel_rfl) rfl
         exact wpOp_value hop (wanted_none rfl) (v := .agg #[.int .i64 (ix + 1), .int .i64 key, .int .i64 0]) (by simp only [execOp, Act.eval, h15]; exact run_v (ld_op (HBC5.out.kp hk.1))) ⟨_, γ, rfl, hk.go (Kp.refl _) 3, (fun d hd => by injection hd with hd; subst hd; exact ⟨tab rfl, G26.none (by decide)⟩), fun _ _ _ h => h⟩
        ·intro hop L a w5 γ hs hk hl ha keep know spec
         have h126 := know 126 (.agg #[.int .i64 (ix + 1), .int .i64 key, .int .i64 0]) (by kernel_rfl) rfl
         exact wpOp_value hop (wanted_none rfl) (v := .slice (some ⟨w5.heap.size, 0, none⟩) 1 1) (w' := w5.alloc (.cells #[.int .i64 (ix + 1), .int .i64 key, .int .i64 0] 82)) (by simp only [execOp, Act.eval, List.map_toArray, List.map_cons, List.map_nil, h126]; go_simp) ⟨_, γ, rfl, hk.go (Kp.refl _).alloc 4, (fun d hd => by injection hd with hd; subst hd; exact ⟨tab_none rfl, ⟨fun e => by omega, fun _ _ => rd_one (o := ((ix + 1), key, 0)) (BC.new w5 _ [.int .i64 (ix + 1), .int .i64 key, .int .i64 0]), fun e => by omega⟩⟩), fun _ _ _ h => h.kp (Kp.refl _).alloc⟩
        ·intro hop L a w5 γ hs hk hl ha keep know spec
         have hγ := hk.notyet hl
         have how := (spec 125 (by kernel_rfl)).1 rfl hγ
         have hrd := (spec 127 (by kernel_rfl)).2.1 rfl hγ
         obtain ⟨y1, hy1⟩ : ∃ y1, y1 = a.tmps.getD 125 undef := ⟨_, rfl⟩
         obtain ⟨y2, hy2⟩ : ∃ y2, y2 = a.tmps.getD 127 undef := ⟨_, rfl⟩
         rw [<- hy1] at how
         rw [<- hy2] at hrd
         obtain ⟨v', w', hr, hov, hgr, hat⟩ := run_app (P := Tryz.prog) 38 row_op how hrd HM1.out HM2.out hk.1.size
         exact wpOp_value hop (wanted_none rfl) (v := v') (w' := w') (run_exec_app (.tmp 125) (.tmp 127) rfl hy1.symm hy2.symm hr) ⟨_, some v', rfl, hk.app how.hi hgr hov, (fun d hd => by injection hd with hd; subst hd; exact ⟨tab_none rfl, ⟨fun e => by omega, fun e => by omega, fun _ => rfl⟩⟩), fun j u hd h => h.app (fun e => hd (by rw [e])) hγ⟩
        ·intro hop L a w5 γ hs hk hl ha keep know spec
         have h18 := keep 18 (.string (bs (Lib.itoa av))) (by kernel_rfl) rfl
         exact wpOp_value hop (wanted_none rfl) (v := .string (bs (Lib.itoa av))) (by simp only [execOp, Act.eval, h18]; rfl) ⟨_, γ, rfl, hk.go (Kp.refl _) 6, (fun d hd => by injection hd with hd; subst hd; exact ⟨tab rfl, G26.none (by decide)⟩), fun _ _ _ h => h⟩
        ·intro hop L a w5 γ hs hk hl ha keep know spec
         have h123 := know 123 ((.slice A4 n4 c4)) (by kernel_rfl) rfl
         exact wpOp_value hop (wanted_none rfl) (v := (.slice A4 n4 c4)) (by simp only [execOp, Act.eval, h123]; rfl) ⟨_, γ, rfl, hk.go (Kp.refl _) 7, (fun d hd => by injection hd with hd; subst hd; exact ⟨tab rfl, G26.none (by decide)⟩), fun _ _ _ h => h⟩
        ·intro hop L a w5 γ hs hk hl ha keep know spec
         have hG := (spec 128 (by kernel_rfl)).2.2 (.inl rfl)
         obtain ⟨x, hx⟩ : ∃ x, x = a.tmps.getD 128 undef := ⟨_, rfl⟩
         rw [<- hx] at hG
         exact wpOp_value hop (wanted_none rfl) (v := x) (by simp only [execOp, Act.eval, <- hx]; rfl) ⟨_, γ, rfl, hk.go (Kp.refl _) 8, (fun d hd => by injection hd with hd; subst hd; exact ⟨tab_none rfl, ⟨fun e => by omega, fun e => by omega, fun _ => hG⟩⟩), fun _ _ _ h => h⟩
        ·intro hop L a w5 γ hs hk hl ha keep know spec
         have h129 := know 129 (.string (bs (Lib.itoa av))) (by kernel_rfl) rfl
         exact wpOp_value hop (wanted_none rfl) (v := .string (bs (Lib.itoa av))) (by simp only [execOp, Act.eval, h129]; rfl) ⟨_, γ, rfl, hk.go (Kp.refl _) 9, (fun d hd => by injection hd with hd; subst hd; exact ⟨tab rfl, G26.none (by decide)⟩), fun _ _ _ h => h⟩
       ·intro a' w9 γ e1 e2 hk keep know spec
        obtain ⟨tm, df⟩ := a'
        have h7 := (spec 7 (by kernel_rfl)).2.2 (.inr rfl)
        have h6 := know 6 (.slice A4 n4 c4) (by kernel_rfl) rfl
        have h8 := know 8 (.string (bs (Lib.itoa av))) (by kernel_rfl) rfl
        have e1' : df = [] := e1
        clear keep know spec e1 e2
        subst e1'
        dsimp only at h6 h7 h8
        have hou := hk.2.2 _ h7
        obtain ⟨v7, hv7⟩ : ∃ v7, v7 = tm.getD 7 undef := ⟨_, rfl⟩
        rw [<- hv7] at hou
        have HOU := hide hou
        have HK9 := hide hk.1
        clear hk hou h7
        go_wp2
        refine bodyPost_ret (v := .tuple #[.slice A4 n4 c4, v7, .string (bs (Lib.itoa av))]) ?_ rfl ?_
        ·simp only [Array.getD_eq_getD_getElem?] at h6 h8 hv7
         simp [results, Tryz.results22, go_sem, h6, h8, <- hv7]
        ·show LiPost _ _ _ _
         rw [HA.out]
         exact ⟨.slice A4 n4 c4, v7, rfl, HR4.out.kp (HKW5.out.trans HK9.out), HOU.out.rd, HK1.out.trans ((HKW4.out.trans HKW5.out).trans HK9.out)⟩
      ·have HS : Hid (toldS (ix + 1) ⟨0, ak, av, true⟩ = Lib.itoa ak ++ [32] ++ Lib.itoa av) := hide (by rw [toldS, if_neg hn1, if_neg (by omega), if_neg (by simp), if_neg (by omega), told_two])
       rw [HS.out] at HA
       have d3 : decide (ix < 3) = false := decide_eq_false h3
       have hl1 := Lib.itoa_length_le ak HAK.out.1 HAK.out.2
       have hl2 := Lib.itoa_length_le av HAV.out.1 HAV.out.2
       have hDV := hide (fun W => dig_any av W HSG.out.2 HAV.out.2)
       have hDK := hide (fun W => dig_any ak W HSG.out.1 HAK.out.2)
       obtain ⟨ik, hik⟩ : ∃ ik, Lib.itoa ak = ik := ⟨_, rfl⟩
       obtain ⟨iv, hiv⟩ : ∃ iv, Lib.itoa av = iv := ⟨_, rfl⟩
       rw [hik] at hl1 hDK HA
       rw [hiv] at hl2 hDV HA
       clear hik hiv HS
       have hs1 : (bs ik).size = ik.length := bs_size ik
       have hs2 : (bs iv).size = iv.length := bs_size iv
       have e1 : bs ik ++ ⟨#[32]⟩ = bs (ik ++ [32]) := bs_app ik [32]
       have e2 : bs (ik ++ [32]) ++ bs iv = bs (ik ++ [32] ++ iv) := bs_app _ iv
       have hs3 : (bs (ik ++ [32])).size = ik.length + 1 := by rw [bs_size, List.length_append]; rfl
       have hb1 : ¬ (9223372036854775807 < ((bs ik).size : Int) + 1) := by rw [hs1]; omega
       have hb2 : ¬ (9223372036854775807 < ((bs (ik ++ [32])).size : Int) + ((bs iv).size : Int)) := by rw [hs2, hs3]; omega
       clear hl1 hl2 hs1 hs2 hs3
       have HBC6 : Hid (BC W5 w4.heap.size 84 [.int .i64 0, .int .i64 ak, .int .i64 av, .bool true]) := hide (by rw [hW5]; exact BC.new w4 _ [.int .i64 0, .int .i64 ak, .int .i64 av, .bool true])
       go_wp2_with fail
       rw [<- hW5]
       have q1 : W5.cell? ⟨w4.heap.size, 1, none⟩ = some (.int .i64 ak) := HBC6.out.cell 1
       have q2 : W5.cell? ⟨w4.heap.size, 2, none⟩ = some (.int .i64 av) := HBC6.out.cell 2
       obtain ⟨g, hg⟩ : ∃ g, g = w4.heap.size := ⟨_, rfl⟩
       rw [<- hg] at q1 q2 ⊢
       have HW5 := hide hW5
       clear hW5 hg
       go_quiet (first
        | (go_at_call_of 49 (Value.int .i64 ak); exact Calls.quiet_of_same ((hDK.out _).mono fun _ _ h => ⟨h.1, h.2.symm⟩))
        | (go_at_call_of 49 (Value.int .i64 av); exact Calls.quiet_of_same ((hDV.out _).mono fun _ _ h => ⟨h.1, h.2.symm⟩)))
       obtain ⟨W6, hW5⟩ : ∃ W6, W6 = W5.drewN nq := ⟨_, rfl⟩
       have k56 : Kp W5 W6 := by rw [hW5]; exact (Kp.refl W5).drewN
       have HKW5 := hide (HKW5.out.trans k56)
       have HBC5 := hide (HBC5.out.kp k56)
       rw [show ik ++ [32] ++ iv = ik ++ 32 :: iv from by rw [List.append_assoc]; rfl] at HA
       clear k56 e1 e2 q1 q2 hb1 hb2
       rw [<- hW5]
       clear hW5
       go_wp2_with fail
       have hW5 : W6 = W6 := rfl
       rw [<- hW5]
       have HCL := hide (fun W (k : Kp W6 W) => cloneOps_any ops _ W (HOP.out.kp ((HKW4.out.trans HKW5.out).trans k)) (by omega))
       have HM1 : Hid ((ops.length + [(((ix + 1), key, 0) : O3)].length) * 24 <= 140737488355328) := hide (by simp; omega)
       have HM2 : Hid (ops.length + [(((ix + 1), key, 0) : O3)].length <= maxLen) := hide (by simp [maxLen]; omega)
       refine wp_region_tabG (by kernel_rfl) [(123, (.slice A4 n4 c4)), (124, (.slice Ao ops.length co)), (126, .agg #[.int .i64 (ix + 1), .int .i64 key, .int .i64 0]), (129, .string (bs (ik ++ 32 :: iv))), (6, (.slice A4 n4 c4)), (8, .string (bs (ik ++ 32 :: iv)))] (G26 W6 ops ((ix + 1), key, 0)) (J26 W6 ops ((ix + 1), key, 0)) Option.none ⟨(Kp.refl _).drew, fun h => absurd rfl h, fun x h => (by cases h)⟩ (by kernel_rfl) (by kernel_rfl) ?_ ?_
       ·refine ⟨?_, ?_, ?_, ?_, ?_, ?_, ?_, ?_, ?_, ?_, trivial⟩
        ·intro hop L a w5 γ hs hk hl ha keep know spec
         have h16 := keep 16 ((.slice A4 n4 c4)) (by kernel_rfl) rfl
         exact wpOp_value hop (wanted_none rfl) (v := (.slice A4 n4 c4)) (by simp only [execOp, Act.eval, h16]; rfl) ⟨_, γ, rfl, hk.go (Kp.refl _) 0, (fun d hd => by injection hd with hd; subst hd; exact ⟨tab rfl, G26.none (by decide)⟩), fun _ _ _ h => h⟩
        ·intro hop L a w5 γ hs hk hl ha keep know spec
         have h1 := keep 1 ((.slice Ao ops.length co)) (by kernel_rfl) rfl
         exact wpOp_value hop (wanted_none rfl) (v := (.slice Ao ops.length co)) (by simp only [execOp, Act.eval, h1]; rfl) ⟨_, γ, rfl, hk.go (Kp.refl _) 1, (fun d hd => by injection hd with hd; subst hd; exact ⟨tab rfl, G26.none (by decide)⟩), fun _ _ _ h => h⟩
        ·intro hop L a w5 γ hs hk hl ha keep know spec
         have h124 := know 124 ((.slice Ao ops.length co)) (by kernel_rfl) rfl
         exact wpOp_call hop (wanted_none rfl) (by simp only [execOp, resolve, Act.eval, List.map_toArray, List.map_cons, List.map_nil, h124]; rfl) (HCL.out w5 hk.1) fun e w6 hR => by
          obtain ⟨v', rfl, ho, hb6⟩ := hR
          exact ⟨_, rfl, _, γ, rfl, hk.go (Kp.of hb6) 2, (fun d hd => by injection hd with hd; subst hd; exact ⟨tab_none rfl, ⟨fun _ _ => ho.more hk.1.size, fun e => by omega, fun e => by omega⟩⟩), fun _ _ _ h => h.kp (Kp.of hb6)⟩
        ·intro hop L a w5 γ hs hk hl ha keep know spec
         have h15 := keep 15 (.pointer (some ⟨p, 0, none⟩)) (by kernel_rfl) rfl
         exact wpOp_value hop (wanted_none rfl) (v := .agg #[.int .i64 (ix + 1), .int .i64 key, .int .i64 0]) (by simp only [execOp, Act.eval, h15]; exact run_v (ld_op (HBC5.out.kp hk.1))) ⟨_, γ, rfl, hk.go (Kp.refl _) 3, (fun d hd => by injection hd with hd; subst hd; exact ⟨tab rfl, G26.none (by decide)⟩), fun _ _ _ h => h⟩
        ·intro hop L a w5 γ hs hk hl ha keep know spec
         have h126 := know 126 (.agg #[.int .i64 (ix + 1), .int .i64 key, .int .i64 0]) (by kernel_rfl) rfl
         exact wpOp_value hop (wanted_none rfl) (v := .slice (some ⟨w5.heap.size, 0, none⟩) 1 1) (w' := w5.alloc (.cells #[.int .i64 (ix + 1), .int .i64 key, .int .i64 0] 82)) (by simp only [execOp, Act.eval, List.map_toArray, List.map_cons, List.map_nil, h126]; go_simp) ⟨_, γ, rfl, hk.go (Kp.refl _).alloc 4, (fun d hd => by injection hd with hd; subst hd; exact ⟨tab_none rfl, ⟨fun e => by omega, fun _ _ => rd_one (o := ((ix + 1), key, 0)) (BC.new w5 _ [.int .i64 (ix + 1), .int .i64 key, .int .i64 0]), fun e => by omega⟩⟩), fun _ _ _ h => h.kp (Kp.refl _).alloc⟩
        ·intro hop L a w5 γ hs hk hl ha keep know spec
         have hγ := hk.notyet hl
         have how := (spec 125 (by kernel_rfl)).1 rfl hγ
         have hrd := (spec 127 (by kernel_rfl)).2.1 rfl hγ
         obtain ⟨y1, hy1⟩ : ∃ y1, y1 = a.tmps.getD 125 undef := ⟨_, rfl⟩
         obtain ⟨y2, hy2⟩ : ∃ y2, y2 = a.tmps.getD 127 undef := ⟨_, rfl⟩
         rw [<- hy1] at how
         rw [<- hy2] at hrd
         obtain ⟨v', w', hr, hov, hgr, hat⟩ := run_app (P := Tryz.prog) 38 row_op how hrd HM1.out HM2.out hk.1.size
         exact wpOp_value hop (wanted_none rfl) (v := v') (w' := w') (run_exec_app (.tmp 125) (.tmp 127) rfl hy1.symm hy2.symm hr) ⟨_, some v', rfl, hk.app how.hi hgr hov, (fun d hd => by injection hd with hd; subst hd; exact ⟨tab_none rfl, ⟨fun e => by omega, fun e => by omega, fun _ => rfl⟩⟩), fun j u hd h => h.app (fun e => hd (by rw [e])) hγ⟩
        ·intro hop L a w5 γ hs hk hl ha keep know spec
         have h18 := keep 18 (.string (bs (ik ++ 32 :: iv))) (by kernel_rfl) rfl
         exact wpOp_value hop (wanted_none rfl) (v := .string (bs (ik ++ 32 :: iv))) (by simp only [execOp, Act.eval, h18]; rfl) ⟨_, γ, rfl, hk.go (Kp.refl _) 6, (fun d hd => by injection hd with hd; subst hd; exact ⟨tab rfl, G26.none (by decide)⟩), fun _ _ _ h => h⟩
        ·intro hop L a w5 γ hs hk hl ha keep know spec
         have h123 := know 123 ((.slice A4 n4 c4)) (by kernel_rfl) rfl
         exact wpOp_value hop (wanted_none rfl) (v := (.slice A4 n4 c4)) (by simp only [execOp, Act.eval, h123]; rfl) ⟨_, γ, rfl, hk.go (Kp.refl _) 7, (fun d hd => by injection hd with hd; subst hd; exact ⟨tab rfl, G26.none (by decide)⟩), fun _ _ _ h => h⟩
        ·intro hop L a w5 γ hs hk hl ha keep know spec
         have hG := (spec 128 (by kernel_rfl)).2.2 (.inl rfl)
         obtain ⟨x, hx⟩ : ∃ x, x = a.tmps.getD 128 undef := ⟨_, rfl⟩
         rw [<- hx] at hG
         exact wpOp_value hop (wanted_none rfl) (v := x) (by simp only [execOp, Act.eval, <- hx]; rfl) ⟨_, γ, rfl, hk.go (Kp.refl _) 8, (fun d hd => by injection hd with hd; subst hd; exact ⟨tab_none rfl, ⟨fun e => by omega, fun e => by omega, fun _ => hG⟩⟩), fun _ _ _ h => h⟩
        ·intro hop L a w5 γ hs hk hl ha keep know spec
         have h129 := know 129 (.string (bs (ik ++ 32 :: iv))) (by kernel_rfl) rfl
         exact wpOp_value hop (wanted_none rfl) (v := .string (bs (ik ++ 32 :: iv))) (by simp only [execOp, Act.eval, h129]; rfl) ⟨_, γ, rfl, hk.go (Kp.refl _) 9, (fun d hd => by injection hd with hd; subst hd; exact ⟨tab rfl, G26.none (by decide)⟩), fun _ _ _ h => h⟩
       ·intro a' w9 γ e1 e2 hk keep know spec
        obtain ⟨tm, df⟩ := a'
        have h7 := (spec 7 (by kernel_rfl)).2.2 (.inr rfl)
        have h6 := know 6 (.slice A4 n4 c4) (by kernel_rfl) rfl
        have h8 := know 8 (.string (bs (ik ++ 32 :: iv))) (by kernel_rfl) rfl
        have e1' : df = [] := e1
        clear keep know spec e1 e2
        subst e1'
        dsimp only at h6 h7 h8
        have hou := hk.2.2 _ h7
        obtain ⟨v7, hv7⟩ : ∃ v7, v7 = tm.getD 7 undef := ⟨_, rfl⟩
        rw [<- hv7] at hou
        have HOU := hide hou
        have HK9 := hide hk.1
        clear hk hou h7
        go_wp2
        refine bodyPost_ret (v := .tuple #[.slice A4 n4 c4, v7, .string (bs (ik ++ 32 :: iv))]) ?_ rfl ?_
        ·simp only [Array.getD_eq_getD_getElem?] at h6 h8 hv7
         simp [results, Tryz.results22, go_sem, h6, h8, <- hv7]
        ·show LiPost _ _ _ _
         rw [HA.out]
         exact ⟨.slice A4 n4 c4, v7, rfl, HR4.out.kp (HKW5.out.trans HK9.out), HOU.out.rd, HK1.out.trans ((HKW4.out.trans HKW5.out).trans HK9.out)⟩
   ·have HA : Hid (ansW l ops ws = (l, ops, errB er)) := hide (by rw [HAN.out, hAN, if_neg her])
    have hDI := hide (fun W => dig_any er W HI2 (by omega))
    have hlen := Lib.itoa_length_le er (by omega) (by omega)
    obtain ⟨il, hil⟩ : ∃ il, Lib.itoa er = il := ⟨_, rfl⟩
    have HEB : Hid (errB er = [101, 114, 114, 111, 114, 32] ++ il) := hide (by rw [errB, hil])
    rw [hil] at hDI hlen
    have hb6 : ¬ (9223372036854775807 < 6 + ((bs il).size : Int)) := by rw [bs_size]; omega
    have ber : (er == 0) = false := beq_eq_false_iff_ne.2 her
    clear hAN HI2 HI3 hlen hil
    go_wp2_with fail
    refine (hDI.out _).mono ?_
    rintro e w5 ⟨rfl, hw5⟩
    have hk5 : Kp w4 w5 := by rw [<- hw5]; exact (Kp.refl w4).alloc
    clear hw5
    go_wp2
    go_ret3
    refine ⟨_, _, ?_, by rw [HA.out]; exact HL.out.kp (HKW4.out.trans hk5), by rw [HA.out]; exact HOP.out.kp (HKW4.out.trans hk5), HK1.out.trans (HKW4.out.trans hk5)⟩
    rw [HA.out, HEB.out, <- bs_app]
    rfl
  ·have HA : Hid (ansW l ops ws = (l, ops, errB 1)) := hide (by rw [HAN.out, hAN, if_neg hlen])
   have bl : ((xs.length : Int) == 1) = false := beq_eq_false_iff_ne.2 (by omega)
   clear hAN HNN hlen
   go_enter Tryz.func22, Tryz.ntmps22
   go_wp2_with fail
   rw [<- hW1]
   refine HI.out.mono ?_
   rintro e w1' ⟨rfl, hw1'⟩
   rw [hw1']
   clear x1 hw1' hW1
   go_wp2_with fail
   refine HNM.out.mono ?_
   rintro e w2 ⟨⟨v2, rfl, hr2⟩, hk2⟩
   obtain ⟨A2, c2, rfl, hc2, _⟩ := hr2.shape
   clear hr2
   go_wp2
   go_ret3
   exact ⟨_, _, by rw [HA.out, errB_one]; rfl, by rw [HA.out]; exact HL.out.kp hk2, by rw [HA.out]; exact HOP.out.kp hk2, HK1.out.trans hk2⟩
end Go.Proofs.YtcljlnagpjilaaaGreatDoor
