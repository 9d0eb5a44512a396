/-
  Op by op
  goat.Run: what it answers
  goat.Even: what it answers
-/
import Derived.Test.YtcljlnagpjilaaaGreatDoorG22
import Derived.Test.YtcljlnagpjilaaaGreatDoorG24
import Derived.Test.YtcljlnagpjilaaaGreatDoorG9
import Derived.Test.YtcljlnagpjilaaaGreatDoorG14

set_option linter.unusedVariables false
set_option linter.unusedSimpArgs false
set_option maxRecDepth 100000
set_option maxHeartbeats 8000000
namespace Go.Proofs.YtcljlnagpjilaaaGreatDoor
open Go.ChangeShapes Go.WideShapes Go.ChangeAt Go.RowKit
theorem ksIns_in : ∀ (ks : List Int) (k : Int), Up ks -> k ∈ ks -> ksIns ks k = ks
 | [], k, _, h => by cases h
 | x :: ks, k, h, hk => by
  obtain ⟨h1, h2⟩ := List.pairwise_cons.1 h
  by_cases e : x = k
  ·subst e
   unfold ksIns
   have e1 : ks.filter (fun y => decide (y < x)) = [] := List.filter_eq_nil_iff.2 fun y hy => by have := h1 y hy; simp; omega
   have e2 : ks.filter (fun y => decide (x < y)) = ks := List.filter_eq_self.2 fun y hy => by simpa using h1 y hy
   simp [List.filter_cons, e1, e2]
  ·have hk' : k ∈ ks := (List.mem_cons.1 hk).resolve_left fun h => e h.symm
   have hxk : x < k := h1 k hk'
   have ih := ksIns_in ks k h2 hk'
   unfold ksIns at ih ⊢
   rw [List.filter_cons_of_pos (by simpa using hxk), List.filter_cons_of_neg (by simp; omega)]
   simpa using ih
theorem ksDel_out (ks : List Int) (k : Int) (h : k ∉ ks) : ksDel ks k = ks := List.filter_eq_self.2 fun y hy => by
 have : y ≠ k := fun e => h (e ▸ hy)
 simpa using this
theorem Gt.kM_put {S : Gt} (h : Up (kM S.T)) (k : Int) : kM (S.put k).T = ksIns (kM S.T) k := by
 unfold Gt.put
 split
 ·rename_i hk; rw [ksIns_in _ _ h hk]
 ·split
  ·exact kM_ins _ _ h
  ·simp only; rw [fixT_keys]; exact kM_ins _ _ h
theorem Gt.kM_cut {S : Gt} (h : Up (kM S.T)) (k : Int) : kM (S.cut k).T = ksDel (kM S.T) k := by
 unfold Gt.cut
 split
 ·rename_i hk; rw [ksDel_out _ _ hk]
 ·split
  ·simp only; rw [evenT_keys]; exact kM_del _ _ h
  ·exact kM_del _ _ h
theorem kM_gtS (S : Gt) (o : O3) (a : An) (h : Up (kM S.T)) : kM (gtS S o a).T = if a.err ≠ 0 then kM S.T else if o.1 = 1 then ksIns (kM S.T) o.2.1 else if o.1 = 3 then ksDel (kM S.T) o.2.1 else kM S.T := by
 unfold gtS
 split
 ·rfl
 ·split
  ·exact Gt.kM_put h _
  ·split
   ·exact Gt.kM_cut h _
   ·rfl
structure Ct where
 came : Nat
 went : Nat
 now : Nat
 top : Nat
def ctS (C : Ct) (o : O3) (a : An) : Ct :=
 if a.err ≠ 0 then C
 else if o.1 = 1 /\ a.is = false then ⟨C.came + 1, C.went, C.now + 1, max C.top (C.now + 1)⟩
 else if o.1 = 3 /\ a.is = true then ⟨C.came, C.went + 1, C.now - 1, max C.top (C.now - 1)⟩
 else ⟨C.came, C.went, C.now, max C.top C.now⟩
def ctT (z : List (O3 × An)) : Ct := z.foldl (fun C p => ctS C p.1 p.2) ⟨0, 0, 0, 0⟩
theorem ctT_snoc (z : List (O3 × An)) (k : Nat) (h : k < z.length) : ctT (z.take (k + 1)) = ctS (ctT (z.take k)) z[k].1 z[k].2 := by
 rw [List.take_succ_eq_append_getElem h, ctT, List.foldl_append]; rfl
theorem has_mem (l : List IP) (k : Int) : hasKey l k = true ↔ k ∈ l.map Prod.fst := by
 unfold hasKey
 rw [List.any_eq_true]
 constructor
 ·rintro ⟨x, hx, he⟩
  exact List.mem_map.2 ⟨x, hx, by simpa using he⟩
 ·intro h
  obtain ⟨x, hx, he⟩ := List.mem_map.1 h
  exact ⟨x, hx, by simpa using he⟩
theorem op_is (l : List IP) (o : O3) (hr : mapRight l = 0) (he : (doA l o.1 o.2.1 o.2.2).2.err = 0) :
  (o.1 = 1 -> ((doA l o.1 o.2.1 o.2.2).2.is = true ↔ o.2.1 ∈ l.map Prod.fst) /\ (o.2.1 ∉ l.map Prod.fst -> l.length < 200)) /\
  (o.1 = 3 -> ((doA l o.1 o.2.1 o.2.2).2.is = true ↔ o.2.1 ∈ l.map Prod.fst)) := by
 obtain ⟨kind, key, val⟩ := o
 simp only at he ⊢
 have hl := mapRight_len l hr
 constructor
 ·rintro rfl
  have hk : 0 <= key /\ key <= 1000000 := by
   apply Classical.byContradiction
   intro hk
   rw [doA_arg key val 1 hr (by omega) hk] at he
   simp at he
  rw [doA_put key val hr hk] at he ⊢
  unfold putL at he ⊢
  rw [<- has_mem]
  by_cases hh : hasKey l key = true
  ·rw [if_pos hh]; simp [hh]
  ·rw [if_neg hh] at he ⊢
   by_cases h2 : l.length = 200
   ·rw [if_pos h2] at he; simp at he
   ·rw [if_neg h2]; simp [hh]; omega
 ·rintro rfl
  have hk : 0 <= key /\ key <= 1000000 := by
   apply Classical.byContradiction
   intro hk
   rw [doA_arg key val 3 hr (by omega) hk] at he
   simp at he
  rw [doA_cut key val hr hk] at he ⊢
  unfold cutL
  rw [<- has_mem]
  by_cases hh : hasKey l key = true
  ·rw [if_pos hh]; simp [hh]
  ·rw [if_neg hh]; simp [hh]
structure GtRun (l : List IP) (S : Gt) (C : Ct) : Prop where
 ok : GtOk S
 keys : kM S.T = l.map Prod.fst
 right : mapRight l = 0
 now : C.now = S.many
 top : S.most <= C.top
 top2 : C.top <= 200
 cut : C.went = 0 -> S.most = S.many /\ C.top = S.most
 work : ∀ D, deepF C.top <= D -> pot S <= C.came * (3 * (D + 1)) + C.went * (3 * (D + 1) + 2)
theorem gt_step (ops : List O3) : ∀ k, k <= ops.length -> GtRun (runL (ops.take k)).1 (gtT ((opsZ ops).take k)) (ctT ((opsZ ops).take k)) := by
 have hal := runL_len ops ops.length (Nat.le_refl _)
 rw [List.take_length] at hal
 have hzl : (opsZ ops).length = ops.length := by rw [opsZ, List.length_zip, hal]; omega
 intro k
 induction k with
 | zero => intro _; exact ⟨gtOk_new, rfl, runL_right ops 0 (by omega), rfl, Nat.le_refl _, Nat.zero_le _, fun _ => ⟨rfl, rfl⟩, fun D _ => by simp [gtT, pot, phi]⟩
 | succ k ih =>
  intro hk
  obtain ⟨h1, h2, h3, h4, h5, h6, h7, h8⟩ := ih (by omega)
  have hz : (opsZ ops)[k]'(by omega) = (ops[k], (runL ops).2[k]'(by omega)) := by simp [opsZ]
  have ha := runL_ans ops k (by omega) ops.length (by omega) (Nat.le_refl _)
  simp only [List.take_length] at ha
  have ha' := ha (by omega)
  have hd := doA_keys (runL (ops.take k)).1 ops[k].1 ops[k].2.1 ops[k].2.2 h3
  have hr' := runL_right ops (k + 1) hk
  have hlr : (runL (ops.take k)).1.length <= 200 := mapRight_len _ h3
  rw [gtT_snoc _ k (by omega), ctT_snoc _ k (by omega), hz]
  have hkeys : kM (gtS (gtT ((opsZ ops).take k)) ops[k] ((runL ops).2[k]'(by omega))).T = (runL (ops.take (k + 1))).1.map Prod.fst := by
   rw [kM_gtS _ _ _ h1.up, runL_take ops k (by omega), runS]
   simp only
   rw [hd, ha', h2]
  have hoi := op_is (runL (ops.take k)).1 ops[k] h3
  rw [<- ha'] at hoi
  obtain ⟨S, hS⟩ : ∃ S, S = gtT ((opsZ ops).take k) := ⟨_, rfl⟩
  obtain ⟨C, hC⟩ : ∃ C, C = ctT ((opsZ ops).take k) := ⟨_, rfl⟩
  obtain ⟨a, haa⟩ : ∃ a, a = (runL ops).2[k]'(by omega) := ⟨_, rfl⟩
  obtain ⟨o, ho⟩ : ∃ o, o = ops[k] := ⟨_, rfl⟩
  obtain ⟨l, hl⟩ : ∃ l, l = (runL (ops.take k)).1 := ⟨_, rfl⟩
  rw [<- hS] at h1 h2 h4 h5 h7 h8 hkeys ⊢
  rw [<- hC] at h4 h5 h6 h7 h8 ⊢
  rw [<- haa, <- ho] at hkeys hoi ⊢
  rw [<- hl] at h2 hoi hlr
  have hmany : S.many = l.length := by rw [h1.many, <- kM_len, h2, List.length_map]
  clear hS hC haa ho hl hz ha ha' hd ih h3
  rw [<- h2] at hoi
  have hle := h1.le
  by_cases he : a.err = 0
  ·obtain ⟨p1, p3⟩ := hoi he
   by_cases ho1 : o.1 = 1
   ·obtain ⟨q1, q2⟩ := p1 ho1
    have e1 : gtS S o a = S.put o.2.1 := by unfold gtS; rw [if_neg (by simp [he]), if_pos ho1]
    rw [e1] at hkeys ⊢
    have hok := h1.put o.2.1 (by omega) (by omega)
    by_cases hin : o.2.1 ∈ kM S.T
    ·have e2 : S.put o.2.1 = S := by unfold Gt.put; rw [if_pos hin]
     have e3 : ctS C o a = ⟨C.came, C.went, C.now, max C.top C.now⟩ := by
      unfold ctS; rw [if_neg (by simp [he]), if_neg (by simp [q1.2 hin]), if_neg (by omega)]
     have e4 : max C.top C.now = C.top := by omega
     rw [e2] at hkeys hok ⊢
     rw [e3, e4]
     exact ⟨hok, hkeys, hr', h4, h5, h6, h7, h8⟩
    ·have hisf : a.is = false := by
      cases hx : a.is with
      | false => rfl
      | true => exact absurd (q1.1 hx) hin
     have e3 : ctS C o a = ⟨C.came + 1, C.went, C.now + 1, max C.top (C.now + 1)⟩ := by
      unfold ctS; rw [if_neg (by simp [he]), if_pos ⟨ho1, hisf⟩]
     have hroom := q2 hin
     have hput : (S.put o.2.1).many = S.many + 1 /\ (S.put o.2.1).most = max S.most (S.many + 1) := by
      unfold Gt.put; rw [if_neg hin]; split <;> exact ⟨rfl, rfl⟩
     rw [e3]
     refine ⟨hok, hkeys, hr', by rw [hput.1]; simp only; omega, by rw [hput.2]; simp only; omega, by simp only; omega, fun hw => ?_, fun D hD => ?_⟩
     ·have := h7 hw
      rw [hput.1, hput.2]; simp only; omega
     ·simp only at hD ⊢
      have hD1 : deepF C.top <= D := Nat.le_trans (deepF_mono _ _ (by omega) (by omega)) hD
      have hp := h1.pot_put o.2.1 D (Nat.le_trans (deepF_mono _ _ h5 (by omega)) hD1)
      rw [if_neg hin] at hp
      have h9 := h8 D hD1
      rw [Nat.add_mul, Nat.one_mul]
      omega
   ·by_cases ho3 : o.1 = 3
    ·have q1 := p3 ho3
     have e1 : gtS S o a = S.cut o.2.1 := by unfold gtS; rw [if_neg (by simp [he]), if_neg ho1, if_pos ho3]
     rw [e1] at hkeys ⊢
     have hok := h1.cut o.2.1 (by omega)
     by_cases hin : o.2.1 ∈ kM S.T
     ·have e3 : ctS C o a = ⟨C.came, C.went + 1, C.now - 1, max C.top (C.now - 1)⟩ := by
       unfold ctS; rw [if_neg (by simp [he]), if_neg (by omega), if_pos ⟨ho3, q1.2 hin⟩]
      have hcut : (S.cut o.2.1).many = S.many - 1 /\ (S.cut o.2.1).most <= S.most := by
       unfold Gt.cut; rw [if_neg (by simpa using hin)]; split
       ·refine ⟨rfl, ?_⟩
        show S.many - 1 <= S.most
        omega
       ·exact ⟨rfl, Nat.le_refl _⟩
      rw [e3]
      refine ⟨hok, hkeys, hr', by rw [hcut.1]; simp only; omega, by simp only; omega, by simp only; omega, fun hw => by simp only at hw; omega, fun D hD => ?_⟩
      simp only at hD ⊢
      have hD1 : deepF C.top <= D := Nat.le_trans (deepF_mono _ _ (by omega) (by omega)) hD
      have hp := h1.pot_cut o.2.1 D (Nat.le_trans (deepF_mono _ _ h5 (by omega)) hD1)
      rw [if_pos hin] at hp
      have h9 := h8 D hD1
      rw [Nat.add_mul, Nat.one_mul]
      omega
     ·have e2 : S.cut o.2.1 = S := by unfold Gt.cut; rw [if_pos hin]
      have hisf : ¬ (a.is = true) := fun hx => hin (q1.1 hx)
      have e3 : ctS C o a = ⟨C.came, C.went, C.now, max C.top C.now⟩ := by
       unfold ctS; rw [if_neg (by simp [he]), if_neg (by omega), if_neg (by simp [hisf])]
      have e4 : max C.top C.now = C.top := by omega
      rw [e2] at hkeys hok ⊢
      rw [e3, e4]
      exact ⟨hok, hkeys, hr', h4, h5, h6, h7, h8⟩
    ·have e1 : gtS S o a = S := by unfold gtS; rw [if_neg (by simp [he]), if_neg ho1, if_neg ho3]
     have e3 : ctS C o a = ⟨C.came, C.went, C.now, max C.top C.now⟩ := by
      unfold ctS; rw [if_neg (by simp [he]), if_neg (by omega), if_neg (by omega)]
     have e4 : max C.top C.now = C.top := by omega
     rw [e1] at hkeys ⊢
     rw [e3, e4]
     exact ⟨h1, hkeys, hr', h4, h5, h6, h7, h8⟩
  ·have e1 : gtS S o a = S := by unfold gtS; rw [if_pos he]
   have e3 : ctS C o a = C := by unfold ctS; rw [if_pos he]
   rw [e1] at hkeys ⊢
   rw [e3]
   exact ⟨h1, hkeys, hr', h4, h5, h6, h7, h8⟩
theorem ctS_count (C : Ct) (o : O3) (a : An) : (ctS C o a).came + (ctS C o a).went <= C.came + C.went + 1 := by
 unfold ctS
 split
 ·omega
 ·split
  ·simp only; omega
  ·split <;> (simp only; omega)
theorem ctT_count (z : List (O3 × An)) (k : Nat) (h : k <= z.length) : (ctT (z.take k)).came + (ctT (z.take k)).went <= k := by
 induction k with
 | zero => simp [ctT]
 | succ k ih => rw [ctT_snoc z k (by omega)]; have := ctS_count (ctT (z.take k)) z[k].1 z[k].2; have := ih (by omega); omega
theorem gt_small (ops : List O3) (k : Nat) (hk : k <= ops.length) (hl : ops.length <= 300) : GtOk (gtT ((opsZ ops).take k)) /\ (gtT ((opsZ ops).take k)).many <= 200 /\ (gtT ((opsZ ops).take k)).most <= 200 /\ (gtT ((opsZ ops).take k)).built <= 100000 /\ (gtT ((opsZ ops).take k)).T.size <= 200 := by
 have h := gt_step ops k hk
 have hal := runL_len ops ops.length (Nat.le_refl _)
 rw [List.take_length] at hal
 have hzl : (opsZ ops).length = ops.length := by rw [opsZ, List.length_zip, hal]; omega
 have hc := ctT_count (opsZ ops) k (by omega)
 have h1 := h.ok.le
 have h2 := h.ok.many
 have h3 := h.top
 have h4 := h.top2
 have hD := deepF_lt (ctT ((opsZ ops).take k)).top (by omega)
 have hw := h.work 17 (by omega)
 have hp : (gtT ((opsZ ops).take k)).built <= pot (gtT ((opsZ ops).take k)) := by unfold pot; omega
 refine ⟨h.ok, by omega, by omega, by omega, by omega⟩
def goatRun (ops : List O3) : List IP × Int × List An × Int := if ops.length > 300 then ([], 0, [], 2) else ((gtT (opsZ ops)).T.spotsBy Prod.fst 0, ((gtT (opsZ ops)).built : Int), (runL ops).2, 0)
def GoatPost (r : List IP × Int × List An × Int) (w : World) (e : Ending) (w' : World) : Prop := ∃ v u, e = .returned (.tuple #[v, .int .i64 r.2.1, u, .int .i64 r.2.2.2]) /\ RD w' ePair v r.1 /\ RD w' eAns u r.2.2.1 /\ Below w.heap.size w w'
def GtRel (z : List (O3 × An)) (w0 : World) (gy : Nat) (iv : Value) (wr : World) : Prop := ∃ k : Nat, k <= z.length /\ iv = .int .i64 k /\ YR wr gy w0.heap.size (gtT (z.take k)) /\ Kp w0 wr
theorem goatRun_any (ops : List O3) (v : Value) (w : World) (hr : RD w eOp v ops) : Calls Tryz.prog 83 #[v] w (GoatPost (goatRun ops) w) := by
 obtain ⟨A, c, rfl, hc, hm⟩ := hr.shape
 have HR := hide hr
 have HRU := hide (fun W v h => run_any ops v W h)
 clear hr
 by_cases hlen : ops.length > 300
 ·have h1 : runOf ops = ([], [], 2) := by rw [runOf, if_pos hlen]
  have H1 : Hid (goatRun ops = ([], 0, [], 2)) := hide (by rw [goatRun, if_pos hlen])
  rw [h1] at HRU
  clear h1
  go_enter Tryz.func83, Tryz.ntmps83
  go_wp2_with fail
  with_reducible refine (HRU.out _ _ HR.out).mono ?_
  rintro e w1 ⟨v1, u1, rfl, hr1, hu1, hb1⟩
  obtain ⟨A1, c1, rfl, _, _⟩ := hr1.shape
  obtain ⟨A2, c2, rfl, _, _⟩ := hu1.shape
  clear hr1 hu1
  go_wp2
  exact bodyPost_ret (v := .tuple #[.slice none 0 0, .int .i64 0, .slice none 0 0, .int .i64 2]) (by simp [results, Tryz.results83, go_sem]) rfl ⟨_, _, by rw [H1.out], by rw [H1.out]; exact RD.nil, by rw [H1.out]; exact RD.nil, hb1⟩
 ·have h1 : runOf ops = ((runL ops).1, (runL ops).2, 0) := by rw [runOf, if_neg hlen]
  have H1 : Hid (goatRun ops = ((gtT (opsZ ops)).T.spotsBy Prod.fst 0, ((gtT (opsZ ops)).built : Int), (runL ops).2, 0)) := hide (by rw [goatRun, if_neg hlen])
  have HSM := hide (fun k hk => gt_small ops k hk (by omega))
  have hal := runL_len ops ops.length (Nat.le_refl _)
  rw [List.take_length] at hal
  have hzl : (opsZ ops).length = ops.length := by rw [opsZ, List.length_zip, hal]; omega
  have hzk : ∀ k (h : k < (opsZ ops).length) (h1 : k < ops.length) (h2 : k < (runL ops).2.length), (opsZ ops)[k] = (ops[k], (runL ops).2[k]) := fun k h h1 h2 => by simp [opsZ]
  obtain ⟨z, hz⟩ : ∃ z, z = opsZ ops := ⟨_, rfl⟩
  rw [<- hz] at H1 hzl HSM
  have HZK : Hid (∀ k (h : k < z.length) (h1 : k < ops.length) (h2 : k < (runL ops).2.length), z[k] = (ops[k], (runL ops).2[k])) := hide (by rw [hz]; exact hzk)
  rw [h1] at HRU
  obtain ⟨an, han⟩ : ∃ a, a = (runL ops).2 := ⟨_, rfl⟩
  rw [<- han] at HRU H1 HZK hal
  have HZL := hide hzl
  have HAL := hide hal
  clear h1 hz hzk hzl hal han
  go_enter Tryz.func83, Tryz.ntmps83
  go_wp2_with fail
  with_reducible refine (HRU.out _ _ HR.out).mono ?_
  rintro e w1 ⟨v1, u1, rfl, hr1, hu1, hb1⟩
  obtain ⟨A1, c1, rfl, _, _⟩ := hr1.shape
  obtain ⟨A2, c2, rfl, hc2, hm2⟩ := hu1.shape
  have k1 : Kp w w1 := hb1
  have HK1 := hide k1
  have hz1 := k1.size
  have HU := hide hu1
  have hcc : an.length <= 9223372036854775807 := by have h := hc2; simp only at h; omega
  clear hr1 hu1 hb1 k1
  go_wp2
  go_loopw [23] (GtRel z w1 w1.heap.size) (fun i _ => z.length - (intOf i).toNat)
  case atStart =>
   refine ⟨0, by omega, rfl, ⟨⟨none, [], ?_, ?_, MR.nil, by simp, by simp⟩, ?_, ?_, ?_, fun j => ?_, Nat.le_refl _⟩, (Kp.refl w1).alloc⟩
   all_goals simp [go_sem, gtT]
  case round =>
   obtain ⟨k, hk, rfl, hy, hkp⟩ := hrel
   by_cases hlt : k < z.length
   ·have hko : k < ops.length := by rw [<- HZL.out]; exact hlt
    have hka : k < an.length := by rw [HAL.out]; exact hko
    have dk : decide (k < ops.length) = true := by simp [hko]
    have bka : (k : Int) < (an.length : Int) := by omega
    have hkw := HK1.out.trans hkp
    obtain ⟨b, o, rfl, _, x0, x1, x2⟩ := (HR.out.kp hkw).op hko
    obtain ⟨b2, o2, rfl, _, y0, _, _, _⟩ := (HU.out.kp hkp).ans hka
    have y0' := ((Kp.refl wr).alloc (o := .cells #[.int .i64 ops[k].1, .int .i64 ops[k].2.1, .int .i64 ops[k].2.2] 82)).cell y0
    have hst := gtT_snoc z k hlt
    rw [HZK.out k hlt hko hka] at hst
    simp only at hst
    obtain ⟨hok, sm1, sm2, sm3, sm4⟩ := HSM.out k (by omega)
    have HYY := hide hy
    have hy2 := hy.kp ((Kp.refl wr).alloc (o := .cells #[.int .i64 ops[k].1, .int .i64 ops[k].2.1, .int .i64 ops[k].2.2] 82))
    have HPU := hide (gtPut_any (gtT (z.take k)) ops[k].2.1 w1.heap.size w1 _ hy2 (hkp.alloc (o := .cells #[.int .i64 ops[k].1, .int .i64 ops[k].2.1, .int .i64 ops[k].2.2] 82)) hok (by omega) (by omega) (by omega))
    have HCU := hide (gtCut_any (gtT (z.take k)) ops[k].2.1 w1.heap.size w1 _ hy2 (hkp.alloc (o := .cells #[.int .i64 ops[k].1, .int .i64 ops[k].2.1, .int .i64 ops[k].2.2] 82)) hok (by omega) (by omega) (by omega))
    clear hok sm1 sm2 sm3 sm4 hy hy2
    by_cases he : an[k].err = 0
    ·have d1 : (an[k].err != 0) = false := by simp [he]
     rw [gtS, if_neg (by simpa using he)] at hst
     by_cases h1 : ops[k].1 = 1
     ·rw [if_pos h1] at hst
      have d2 : (ops[k].1 == 1) = true := by simp [h1]
      have HS := hide hst
      clear hst he h1
      go_wp2_with fail
      with_reducible refine HPU.out.mono ?_
      rintro e w2 ⟨rfl, hy3, hk3⟩
      have HY3 := hide hy3
      clear hy3
      go_wp2
      go_roundw
      case rel => exact ⟨k + 1, by omega, by go_num, by rw [HS.out]; exact HY3.out, hk3⟩
      case measure => simp [intOf]; omega
     ·rw [if_neg h1] at hst
      have d2 : (ops[k].1 == 1) = false := by simp [h1]
      by_cases h3 : ops[k].1 = 3
      ·rw [if_pos h3] at hst
       have d3 : (ops[k].1 == 3) = true := by simp [h3]
       have HS := hide hst
       clear hst he h1 h3
       go_wp2_with fail
       with_reducible refine HCU.out.mono ?_
       rintro e w2 ⟨rfl, hy3, hk3⟩
       have HY3 := hide hy3
       clear hy3
       go_wp2
       go_roundw
       case rel => exact ⟨k + 1, by omega, by go_num, by rw [HS.out]; exact HY3.out, hk3⟩
       case measure => simp [intOf]; omega
      ·rw [if_neg h3] at hst
       have d3 : (ops[k].1 == 3) = false := by simp [h3]
       have HS := hide hst
       clear hst he h1 h3
       go_wp2
       go_roundw
       case rel => exact ⟨k + 1, by omega, by go_num, by rw [HS.out]; exact HYY.out.kp (Kp.refl wr).alloc, hkp.alloc⟩
       case measure => simp [intOf]; omega
    ·have d1 : (an[k].err != 0) = true := by simp [he]
     rw [gtS, if_pos (by simpa using he)] at hst
     have HS := hide hst
     clear hst he
     go_wp2
     go_roundw
     case rel => exact ⟨k + 1, by omega, by go_num, by rw [HS.out]; exact HYY.out.kp (Kp.refl wr).alloc, hkp.alloc⟩
     case measure => simp [intOf]; omega
   ·have hkl : k = z.length := by omega
    have dk : decide (k < ops.length) = false := by have := HZL.out; simp; omega
    have hS : z.take k = z := List.take_of_length_le (by omega)
    rw [hS] at hy
    have hsm := HSM.out z.length (by rw [HZL.out]; exact Nat.le_refl _)
    rw [List.take_length] at hsm
    obtain ⟨_, _, _, _, sm4⟩ := hsm
    obtain ⟨⟨p, F, q1, q2, q3, q4, q5⟩, _, _, q6, _, _⟩ := hy
    have HT := hide (fun W (h : Kp wr W) => gtTold_any (gtT z).T p F W (q3.kp h) (by omega))
    have KS : Hid (∀ W', Kp wr W' -> (W'.cell? ⟨w1.heap.size, 0, none⟩ = some (.pointer p) /\ W'.cell? ⟨w1.heap.size, 3, none⟩ = some (.int .i64 ((gtT z).built : Int)) /\ Kp wr W')) := hide fun W' h => ⟨h.cell q1, h.cell q6, h⟩
    have K0 := Kp.refl wr
    have HKP := hide hkp
    clear q2 q3 q4 q5 hkl hS sm4
    go_wp2_with fail
    go_region_held3 (fun w' => w'.cell? ⟨w1.heap.size, 0, none⟩ = some (.pointer p) /\ w'.cell? ⟨w1.heap.size, 3, none⟩ = some (.int .i64 ((gtT z).built : Int)) /\ Kp wr w')
     ((go_split_ands; refine KS.out _ ?_; (exact Kp.auto)))
     ((go_at_call 140; (with_reducible refine (HT.out _ ?_).mono ?_); (go_split_ands; (exact Kp.auto)); rintro e w2 ⟨v2, rfl, hr2, hb2⟩))
    all_goals
     go_wp2
     have hkx : Kp wr w2 := by (go_split_ands; (exact Kp.auto))
     exact bodyPost_ret (v := .tuple #[v2, .int .i64 ((gtT z).built : Int), .slice A2 an.length c2, .int .i64 0]) (by simp [results, Tryz.results83, go_sem]) rfl ⟨_, _, by rw [H1.out], by rw [H1.out]; exact hr2, by rw [H1.out]; exact HU.out.kp (HKP.out.trans hkx), (HK1.out.trans (HKP.out.trans hkx)).bel⟩
def evenA (ks : List Int) : List IP × Int := if krL ks = 0 then ((evenT ks).spotsBy Prod.fst 0, 0) else ([], krL ks)
theorem krL_len {l : List Int} (h : krL l = 0) : l.length <= 200 := by
 unfold krL at h
 split at h
 ·omega
 ·omega
theorem gtEvenF_any (ks : List Int) (v : Value) (w : World) (hr : RD w eInt v ks) (hdb : DTb w) : Calls Tryz.prog 84 #[v] w (Ret2 ePair (evenA ks) w) := by
 obtain ⟨A, c, rfl, hc, hm⟩ := hr.shape
 have HR := hide hr
 have HRO := hide (skRows_any ks _ w hr hdb)
 clear hr hdb
 by_cases h0 : krL ks = 0
 ·have hlen := krL_len h0
  have H1 : Hid (evenA ks = ((evenT ks).spotsBy Prod.fst 0, 0)) := hide (by rw [evenA, if_pos h0])
  have e1 : rowsOf ks = (rowsN ks 12, 0) := by rw [rowsOf, if_pos h0]
  rw [e1] at HRO
  have HEV := hide (fun W v h => gtEven_any ks.length ks v W (Nat.le_refl _) (by omega) h)
  have HSZ : Hid ((evenT ks).size <= 1000) := hide (by rw [evenT_size]; omega)
  clear h0 e1
  go_enter Tryz.func84, Tryz.ntmps84
  go_wp2_with fail
  with_reducible refine HRO.out.mono ?_
  rintro e w1 ⟨v1, rfl, hr1, kk1⟩
  obtain ⟨A1, c1, rfl, _, _⟩ := hr1.shape
  clear hr1
  go_wp2_with fail
  with_reducible refine (HEV.out _ _ (HR.out.kp kk1)).mono ?_
  rintro e w2 ⟨p2, F2, rfl, hm2, _, hb2⟩
  have kk2 := Kp.of hb2
  have HTO := hide (gtTold_any (evenT ks) p2 F2 w2 hm2 HSZ.out)
  clear hm2 hb2
  go_wp2_with fail
  with_reducible refine HTO.out.mono ?_
  rintro e w3 ⟨v3, rfl, hr3, hb3⟩
  have kk3 := Kp.of hb3
  have HR3 := hide hr3
  clear hr3 hb3
  go_wp2
  go_ret2
  exact ⟨_, by rw [H1.out]; rfl, by rw [H1.out]; exact HR3.out, (kk1.trans (kk2.trans kk3)).bel⟩
 ·have H1 : Hid (evenA ks = ([], krL ks)) := hide (by rw [evenA, if_neg h0])
  have e1 : rowsOf ks = ([], krL ks) := by rw [rowsOf, if_neg h0]
  rw [e1] at HRO
  obtain ⟨r, hr⟩ : ∃ r, r = krL ks := ⟨_, rfl⟩
  rw [<- hr] at HRO H1 h0
  have d1 : (r != 0) = true := by simpa using h0
  clear h0 e1 hr
  go_enter Tryz.func84, Tryz.ntmps84
  go_wp2_with fail
  with_reducible refine HRO.out.mono ?_
  rintro e w1 ⟨v1, rfl, hr1, kk1⟩
  obtain ⟨A1, c1, rfl, _, _⟩ := hr1.shape
  clear hr1
  go_wp2
  go_ret2
  exact ⟨_, by rw [H1.out]; rfl, by rw [H1.out]; exact RD.nil, kk1.bel⟩
end Go.Proofs.YtcljlnagpjilaaaGreatDoor
