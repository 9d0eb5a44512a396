/-
  The keys behind the lines that put keys anew: plain laws
  hedgkeep.DeskZip: what its walk needs: plain laws
  What the desk writes is short: plain laws
-/
import Derived.Test.YtcljlnagpjilaaaGreatDoorG47
import Derived.Test.YtcljlnagpjilaaaGreatDoorG48
import Derived.Test.YtcljlnagpjilaaaGreatDoorG22
import Derived.Test.YtcljlnagpjilaaaGreatDoorG14

set_option linter.unusedVariables false
set_option linter.unusedSimpArgs false
set_option maxRecDepth 100000
set_option maxHeartbeats 8000000
namespace Go.Proofs.YtcljlnagpjilaaaGreatDoor
open Go.ChangeShapes Go.WideShapes Go.ChangeAt Go.RowKit
theorem put_err {l : List IP} (hr : mapRight l = 0) (hl : l.length < 200) {k : Int} (h0 : 0 <= k) (h1 : k <= 1000000) : (doA l 1 k 0).2.err = 0 := by
 rw [doA, if_pos hr, doL, if_neg (by omega), if_pos rfl, putL]
 split
 ·rfl
 ·rw [if_neg (by omega)]
theorem put_ans {l : List IP} {ops : List O3} (h : DkIn l ops) (hl : l.length < 200) {k : Int} (h0 : 0 <= k) (h1 : k <= 1000000) : (ansW l ops (putW k)).1.map Prod.fst = ksIns (l.map Prod.fst) k := by
 have hk : kOf (putW k) = 1 := by
  show kindOf (bs putT) = 1
  decide +kernel
 have e1 : wAt (putW k) 1 = Lib.itoa k := rfl
 have e2 : wAt (putW k) 2 = [48] := rfl
 have n2 : numF [48] = some 0 := by decide +kernel
 have he := put_err h.right hl h0 h1
 have ha : askW l ops (putW k) = .ok ((doA l 1 k 0).1, ops ++ [(1, k, 0)], toldS 1 (doA l 1 k 0).2) := by
  rw [askW, if_pos hk, if_neg (by simp [putW]), e1, numF_itoa h0 h1]
  simp only
  rw [e2, n2]
  simp only
  rw [askO, if_pos he]
 rw [ansW, if_pos (by rw [hk]; decide), ha]
 simp only
 rw [doA_keys _ _ _ _ h.right, if_neg (by rw [he]; decide), if_pos rfl]
theorem ksIns_iff {ks : List Int} {k x : Int} : x ∈ ksIns ks k ↔ x = k ∨ x ∈ ks := by
 simp only [ksIns, List.mem_append, List.mem_filter, List.mem_singleton, decide_eq_true_eq]
 constructor
 ·rintro ((h | h) | h)
  ·exact .inr h.1
  ·exact .inl h
  ·exact .inr h.1
 ·rintro (h | h)
  ·exact .inl (.inr h)
  ·rcases Int.lt_trichotomy x k with h1 | h1 | h1
   ·exact .inl (.inl ⟨h, h1⟩)
   ·exact .inl (.inr h1)
   ·exact .inr ⟨h, h1⟩
theorem two_filter (k : Int) : ∀ ks : List Int, (ks.filter fun x => decide (x < k)).length + (ks.filter fun x => decide (k < x)).length <= ks.length
 | [] => Nat.le_refl _
 | x :: ks => by
  have := two_filter k ks
  rw [List.filter_cons, List.filter_cons, List.length_cons]
  by_cases h1 : x < k
  ·rw [if_pos (decide_eq_true h1), if_neg (by simp; omega), List.length_cons]; omega
  ·rw [if_neg (by simpa using h1)]
   split
   ·rw [List.length_cons]; omega
   ·omega
theorem ksIns_len (ks : List Int) (k : Int) : (ksIns ks k).length <= ks.length + 1 := by
 have := two_filter k ks
 simp only [ksIns, List.length_append, List.length_singleton]
 omega
theorem zputs_keys (K : List Int) (hK : ∀ k ∈ K, 0 <= k /\ k <= 1000000) (hn : K.length <= 100) :
  ∀ j, j <= K.length -> Up ((deskSt ((K.map putW).take j)).1.map Prod.fst) /\ ((deskSt ((K.map putW).take j)).1.map Prod.fst).length <= j /\ ∀ x, x ∈ (deskSt ((K.map putW).take j)).1.map Prod.fst ↔ x ∈ K.take j
 | 0, _ => ⟨List.Pairwise.nil, Nat.le_refl 0, fun x => by simp [deskSt]⟩
 | j + 1, hj => by
  obtain ⟨h1, hl, h2⟩ := zputs_keys K hK hn j (by omega)
  have hjl : j < (K.map putW).length := by rw [List.length_map]; omega
  obtain ⟨hin, _⟩ := deskSt_in (K.map putW) j (by rw [List.length_map]; omega)
  obtain ⟨b0, b1⟩ := hK K[j] (List.getElem_mem (by omega))
  have hlen : (deskSt ((K.map putW).take j)).1.length < 200 := by
   rw [List.length_map] at hl
   omega
  have e : (deskSt ((K.map putW).take (j + 1))).1.map Prod.fst = ksIns ((deskSt ((K.map putW).take j)).1.map Prod.fst) K[j] := by
   rw [deskSt_snoc _ j hjl]
   unfold stepD
   rw [List.getElem_map]
   exact put_ans hin hlen b0 b1
  rw [e]
  refine ⟨up_ins h1 _, Nat.le_trans (ksIns_len _ _) (by omega), fun x => ?_⟩
  rw [ksIns_iff, h2, List.take_succ_eq_append_getElem (by omega), List.mem_append, List.mem_singleton]
  exact ⟨fun h => h.symm, fun h => h.symm⟩
def inTz : T -> List Int
 | .nil => []
 | .node k l r => inTz l ++ k :: inTz r
theorem told1_inz : ∀ t : T, (told1 t).Perm (inTz t)
 | .nil => .nil
 | .node k l r => by
  show (k :: (told1 l ++ told1 r)).Perm (inTz l ++ k :: inTz r)
  exact (((told1_inz l).append (told1_inz r)).cons k).trans List.perm_middle.symm
theorem heap_inz : ∀ (n : Nat) (L : List IP), L.length <= n -> inTz (heapTree L) = L.map Prod.fst
 | 0, L, h => by
  obtain rfl := List.eq_nil_of_length_eq_zero (Nat.le_zero.1 h)
  rw [heapTree_nil]; rfl
 | n + 1, L, h => by
  by_cases h0 : L = []
  ·subst h0; rw [heapTree_nil]; rfl
  ·have ht := top_lt L h0
   rw [heapTree_cons L h0]
   show inTz (heapTree (L.take (top L))) ++ (L[top L]'ht).1 :: inTz (heapTree (L.drop (top L + 1))) = _
   rw [heap_inz n _ (by rw [List.length_take]; omega), heap_inz n _ (by rw [List.length_drop]; omega)]
   conv => rhs; rw [<- List.take_append_drop (top L) L, List.drop_eq_getElem_cons ht, List.map_append, List.map_cons]
theorem tz_perm (ks : List Int) : (told1 (heapTree (ks.map zk))).Perm ks := by
 have h := told1_inz (heapTree (ks.map zk))
 rw [heap_inz _ _ (Nat.le_refl _), List.map_map] at h
 have e : (Prod.fst ∘ zk) = id := rfl
 rwa [e, List.map_id] at h
theorem anew_keys (ks K : List Int) (hu : Up ks) (hp : K.Perm ks) (hK : ∀ k ∈ ks, 0 <= k /\ k <= 1000000) (hn : ks.length <= 100) : (deskSt (K.reverse.map putW)).1.map Prod.fst = ks := by
 have hl : K.reverse.length = ks.length := by rw [List.length_reverse, hp.length_eq]
 have hm : ∀ x, x ∈ K.reverse ↔ x ∈ ks := fun x => by rw [List.mem_reverse, hp.mem_iff]
 obtain ⟨h1, _, h2⟩ := zputs_keys K.reverse (fun k hk => hK k ((hm k).1 hk)) (by omega) K.reverse.length (Nat.le_refl _)
 rw [List.take_of_length_le (by rw [List.length_map]; exact Nat.le_refl _), List.take_length] at *
 exact up_ext h1 hu fun x => by rw [h2, hm]
def ksOf (s : ByteArray) : List Int := (deskSt (linesF s)).1.map Prod.fst
def kOrd (s : ByteArray) : List Int := told1 (heapTree ((ksOf s).map zk))
theorem runL_len2 (ops : List O3) : ∀ k, k <= ops.length -> (runL (ops.take k)).1.length <= k
 | 0, _ => Nat.le_refl 0
 | k + 1, h => by
  have h1 := runL_len2 ops k (by omega)
  have hr := runL_right ops k (by omega)
  have hk := doA_keys (runL (ops.take k)).1 ops[k].1 ops[k].2.1 ops[k].2.2 hr
  rw [runL_take ops k (by omega), runS]
  have h2 := congrArg List.length hk
  rw [List.length_map] at h2
  simp only
  rw [h2]
  split
  ·rw [List.length_map]; omega
  ·split
   ·have := ksIns_len ((runL (ops.take k)).1.map Prod.fst) ops[k].2.1
    rw [List.length_map] at this
    omega
   ·split
    ·have := List.length_filter_le (fun x => !(x == ops[k].2.1)) ((runL (ops.take k)).1.map Prod.fst)
     rw [List.length_map] at this
     unfold ksDel
     omega
    ·rw [List.length_map]; omega
theorem ks_in (s : ByteArray) : Up (ksOf s) /\ (∀ k ∈ ksOf s, 0 <= k /\ k <= 1000000) /\ (ksOf s).length <= (linesF s).length := by
 have hi := deskSt_in (linesF s) (linesF s).length (Nat.le_refl _)
 rw [List.take_length] at hi
 have h1 := krL_in (runL_keys (deskSt (linesF s)).2.1)
 rw [hi.1.run] at h1
 refine ⟨h1.2.1, h1.2.2, ?_⟩
 have h2 := runL_len2 (deskSt (linesF s)).2.1 _ (Nat.le_refl _)
 rw [List.take_length, hi.1.run] at h2
 unfold ksOf
 rw [List.length_map]
 omega
theorem kOrd_perm (s : ByteArray) : (kOrd s).Perm (ksOf s) := tz_perm _
theorem kOrd_in (s : ByteArray) : ∀ k ∈ kOrd s, 0 <= k /\ k <= 1000000 := fun k hk => (ks_in s).2.1 k ((kOrd_perm s).mem_iff.1 hk)
theorem kOrd_len (s : ByteArray) : (kOrd s).length <= (linesF s).length := by rw [(kOrd_perm s).length_eq]; exact (ks_in s).2.2
theorem putN_len {k : Int} (h : 0 <= k /\ k <= 1000000) : (putN k).length <= 14 := by
 obtain ⟨u, rfl⟩ : ∃ u : Nat, k = u := ⟨k.toNat, by omega⟩
 have h2 : (Lib.itoa (u : Int)).length <= 7 := by
  rw [Lib.itoa, if_neg (by omega), Int.toNat_natCast]
  exact nDig_le 7 u (by omega) (by omega)
 simp only [putN, List.length_append, List.length_cons, List.length_nil]
 omega
theorem anewT_len : ∀ (K : List Int), (∀ k ∈ K, 0 <= k /\ k <= 1000000) -> ∀ acc : By, (K.foldl (fun acc k => putN k ++ acc) acc).length <= K.length * 14 + acc.length
 | [], _, acc => by simp
 | k :: K, h, acc => by
  have h1 := anewT_len K (fun x hx => h x (List.mem_cons_of_mem _ hx)) (putN k ++ acc)
  have h2 := putN_len (h k List.mem_cons_self)
  rw [List.foldl_cons]
  rw [List.length_append] at h1
  rw [List.length_cons]
  omega
theorem anew_same (s : ByteArray) (hn : (linesF s).length <= 90) : linesF (bs (anewT (kOrd s))) = (kOrd s).reverse.map putW /\ ksOf (bs (anewT (kOrd s))) = ksOf s := by
 have e : linesF (bs (anewT (kOrd s))) = (kOrd s).reverse.map putW := by
  have := anew_lines (kOrd s) (fun k hk => (kOrd_in s k hk).1) []
  have h0 : linesF (bs []) = [] := by decide +kernel
  rw [h0, List.append_nil] at this
  exact this
 refine ⟨e, ?_⟩
 have hk := ks_in s
 rw [ksOf, e]
 exact anew_keys (ksOf s) (kOrd s) hk.1 (kOrd_perm s) hk.2.1 (by omega)
theorem tz_words {K : List Int} (hne : K ≠ []) (h : ∀ k ∈ K, 0 <= k) : sp1 32 [] (wordsF K noneB) = K.map Lib.itoa := by
 have hno : ∀ k ∈ K, (32 : UInt8) ∉ Lib.itoa k := fun k hk hm => (dig_ne (List.all_eq_true.1 (itoa_digs (h k hk)).1 _ hm)).2.2.2 rfl
 rw [wordsF, if_neg hne]
 have hgen : ∀ (r : List Int), (∀ k ∈ r, (32 : UInt8) ∉ Lib.itoa k) -> ∀ x : By, (32 : UInt8) ∉ x -> sp1 32 [] (x ++ Lib.joinTail [32] (r.map Lib.itoa)) = x :: r.map Lib.itoa := by
  intro r
  induction r with
  | nil =>
   intro _ x hx
   have : Lib.joinTail [32] (([] : List Int).map Lib.itoa) = [] := rfl
   rw [this, List.append_nil, sp1_none 32 x [] hx]
   rfl
  | cons k r ih =>
   intro hr x hx
   have : Lib.joinTail [32] ((k :: r).map Lib.itoa) = 32 :: (Lib.itoa k ++ Lib.joinTail [32] (r.map Lib.itoa)) := by simp [Lib.joinTail]
   rw [this, sp1_hit 32 x [] _ hx, ih (fun y hy => hr y (List.mem_cons_of_mem _ hy)) _ (hr k List.mem_cons_self)]
   rfl
 obtain ⟨k, r, rfl⟩ : ∃ k r, K = k :: r := by cases K with | nil => exact absurd rfl hne | cons k r => exact ⟨k, r, rfl⟩
 rw [List.map_cons, Lib.join_cons]
 exact hgen r (fun y hy => hno y (List.mem_cons_of_mem _ hy)) _ (hno k List.mem_cons_self)
theorem tz_none {K : List Int} (hne : K ≠ []) (h : ∀ k ∈ K, 0 <= k) : wordsF K noneB ≠ noneB := fun e => by
 have h1 := tz_words hne h
 rw [e] at h1
 obtain ⟨k, r, rfl⟩ : ∃ k r, K = k :: r := by cases K with | nil => exact absurd rfl hne | cons k r => exact ⟨k, r, rfl⟩
 have h2 : sp1 32 [] noneB = [noneB] := by decide
 rw [h2, List.map_cons] at h1
 have h3 := (List.cons.inj h1).1
 have h4 := (itoa_digs (h k List.mem_cons_self)).1
 rw [<- h3] at h4
 revert h4; decide
theorem rows_small (ks : List Int) : (rowsOf ks).1.length <= 1000 /\ ∀ r ∈ (rowsOf ks).1, r.length <= 200 := by
 refine ⟨(rows_in ks).1, ?_⟩
 unfold rowsOf
 split
 ·rename_i h
  obtain ⟨h1, h2, h3⟩ := krL_in h
  obtain ⟨R, hR, e, _, _⟩ := rowsN_range ks
  intro r hr
  rw [e] at hr
  obtain ⟨q, _, rfl⟩ := List.mem_map.1 hr
  have := rowK_len ks q; omega
 ·exact fun r h => absurd h List.not_mem_nil
theorem wordsF_small (l : List Int) (h : In64 l) (hn : l.length <= 200) : (wordsF l []).length <= 4421 := by
 unfold wordsF
 split
 ·simp
 ·rename_i h0
  obtain ⟨x, r, rfl⟩ : ∃ x r, l = x :: r := by cases l with | nil => exact absurd rfl h0 | cons x r => exact ⟨x, r, rfl⟩
  rw [List.map_cons, Lib.join_cons, List.length_append]
  have h1 := joinTail_len [32] (r.map Lib.itoa) (fun y hy => by
   obtain ⟨z, hz, rfl⟩ := List.mem_map.1 hy
   exact Lib.itoa_length_le z (h z (List.mem_cons_of_mem _ hz)).1 (h z (List.mem_cons_of_mem _ hz)).2)
  have h2 := Lib.itoa_length_le x (h x List.mem_cons_self).1 (h x List.mem_cons_self).2
  rw [List.length_map] at h1
  rw [List.length_cons] at hn
  have e1 : ([32] : By).length = 1 := rfl
  rw [e1] at h1
  omega
theorem lineS_len8 {l : List IP} {ops : List O3} (h : LnOk l ops) {ws : List ByteArray} {s : By} (hs : lineS (l.map Prod.fst) ops ws = .ok s) : s.length <= 100000000 := by
 have w : ∀ (x : List Int), In64 x -> x.length <= 1000000 -> (wordsF x noneB).length <= 100000000 := fun x h1 h2 => Nat.le_trans (wordsF_len x h1 h2 noneB (by decide)) (by decide)
 have nn : (noneB : By).length <= 100000000 := by decide
 unfold lineS at hs
 split at hs
 ·unfold rowsS at hs
  split at hs
  ·injection hs with hs
   subst hs
   split
   ·exact nn
   ·obtain ⟨r1, r2⟩ := rows_small (l.map Prod.fst)
    have hj := join_lenN 4421 [124] ((rowsOf (l.map Prod.fst)).1.map (fun r => wordsF r [])) (fun x hx => by
     obtain ⟨r, hr, rfl⟩ := List.mem_map.1 hx
     exact wordsF_small r (h.rows.2 r hr).2 (r2 r hr))
    rw [List.length_map] at hj
    have e1 : ([124] : By).length = 1 := rfl
    rw [e1] at hj
    have := Nat.mul_le_mul_right (1 + 4421) r1
    omega
  ·cases hs
 ·split at hs
  ·cases hs
  ·split at hs
   ·split at hs
    ·cases hs
    ·rename_i n _
     unfold pathS at hs
     split at hs
     ·injection hs with hs
      subst hs
      exact w _ (h.path n).2 (by rw [List.length_map]; exact (h.path n).1)
     ·cases hs
   ·split at hs
    ·split at hs
     ·cases hs
     ·rename_i t ht
      split at hs
      ·injection hs with hs
       subst hs
       exact w _ (h.tree _ t ht).2.1 (h.tree _ t ht).1
      ·cases hs
    ·split at hs
     ·split at hs
      ·cases hs
      ·rename_i t ht
       split at hs
       ·injection hs with hs
        subst hs
        split
        ·exact nn
        ·have := itoa_len (sumOf t).1 ((h.tree _ t ht).2.2 _ (by simp))
         omega
       ·cases hs
     ·cases hs
theorem told_len8 {l : List IP} {k key val : Int} {r : An} (h : In64 [r.key, r.val]) : (toldS k r).length <= 100000000 := by
 have nn : (noneB : By).length <= 100000000 := by decide
 have hi := itoa_len r.val (h _ (by simp))
 unfold toldS
 split
 ·split <;> decide
 ·split
  ·omega
  ·split
   ·exact nn
   ·split
    ·omega
    ·exact Nat.le_trans (wordsF_len [r.key, r.val] h (by simp) [] (by simp)) (by decide)
theorem askW_len8 {l : List IP} {ops : List O3} (h : LnOk l ops) {ws : List ByteArray} {x : List IP × List O3 × By} (hx : askW l ops ws = .ok x) : x.2.2.length <= 100000000 := by
 have key : ∀ k key val, askO l ops k key val = .ok x -> x.2.2.length <= 100000000 := fun k key val hx => by
  unfold askO at hx
  split at hx
  ·injection hx with hx
   subst hx
   exact told_len8 (l := l) (key := key) (val := val) (h.ask k key val)
  ·cases hx
 unfold askW at hx
 split at hx
 ·split at hx
  ·cases hx
  ·split at hx
   ·cases hx
   ·split at hx
    ·cases hx
    ·exact key _ _ _ hx
 ·split at hx
  ·cases hx
  ·split at hx
   ·cases hx
   ·exact key _ _ _ hx
theorem ansW_len8 {l : List IP} {ops : List O3} (h : LnOk l ops) (ws : List ByteArray) : (ansW l ops ws).2.2.length <= 100000000 := by
 unfold ansW
 split
 ·cases hr : askW l ops ws with
  | ok x => exact askW_len8 h hr
  | error e =>
   have := errB_len e (askW_err h.err hr)
   simp only
   omega
 ·cases hr : lineS (l.map Prod.fst) ops ws with
  | ok s => exact lineS_len8 h hr
  | error e =>
   have := errB_len e (h.line ws e hr)
   simp only
   omega
theorem deskSt_len8 (ls : List (List ByteArray)) (hn : ls.length <= 100) : ∀ k, k <= ls.length -> (deskSt (ls.take k)).2.2.length <= k * 100000001
 | 0, _ => by simp [deskSt]
 | k + 1, h => by
  have h1 := deskSt_len8 ls hn k (by omega)
  obtain ⟨h2, h3⟩ := deskSt_in ls k (by omega)
  have h4 := ansW_len8 (h2.ok (by omega)) ls[k]
  rw [deskSt_snoc ls k h]
  unfold stepD
  simp only [List.length_append, List.length_singleton]
  omega
end Go.Proofs.YtcljlnagpjilaaaGreatDoor
