/-
  goat.yard.put: what it leaves
-/
import Derived.Test.YtcljlnagpjilaaaGreatDoorG22
import Derived.Lib.MinMax
import Derived.StillTailTactics

set_option linter.unusedVariables false
set_option linter.unusedSimpArgs false
set_option maxRecDepth 100000
set_option maxHeartbeats 8000000
namespace Go.Proofs.YtcljlnagpjilaaaGreatDoor
open Go.ChangeShapes Go.WideShapes Go.ChangeAt Go.RowKit
def eLnk : Enc Addr := ⟨1, fun a => [.pointer (some a)], fun _ => rfl, fun _ u h => by simp at h; subst h; rfl⟩
theorem info_link : (Tryz.prog.info? 254).map (fun i => (i.zero, i.size, i.bytes)) = some (some (.pointer none), 1, 8) := by kernel_rfl
theorem row_link : Row Tryz.prog 253 254 eLnk 8 := row_of info_link Tryz.underlying253 rfl rfl (by decide)
theorem RD.ptr {w : World} {A : Option Addr} {n c : Nat} {l : List Addr} (h : RD w eLnk (.slice A n c) l) {k : Nat} (hk : k < l.length) : ∃ b o, A = some ⟨b, o, none⟩ /\ b < w.heap.size /\ w.cell? ⟨b, o + k, none⟩ = some (.pointer (some l[k])) := by
 obtain ⟨b, o, rfl, hb, hc⟩ := h.at_ hk
 have := hc 0 (by decide)
 simp only [eLnk, Nat.mul_one, Nat.add_zero] at this
 exact ⟨b, o, rfl, hb, this⟩
theorem YR.kp {w w' : World} {gy base : Nat} {S : Gt} (h : YR w gy base S) (hk : Kp w w') : YR w' gy base S := by
 obtain ⟨h1, h2, h3, h4, h5, h6⟩ := h
 have hl := World.block_lt_of_cell? _ _ h2
 exact ⟨h1.kp hk, hk.cell h2, hk.cell h3, hk.cell h4, fun j => (hk.frozen (p := ⟨gy, j, none⟩) hl).trans (h5 j), h6⟩
theorem YR.set {w : World} {gy base : Nat} {S S' : Gt} (h : YR w gy base S) {j : Nat} {v : Value} (hj : 0 < j) (hT : S'.T = S.T)
  (h1 : (w.setCell ⟨gy, j, none⟩ v).cell? ⟨gy, 1, none⟩ = some (.int .i64 (S'.many : Int))) (h2 : (w.setCell ⟨gy, j, none⟩ v).cell? ⟨gy, 2, none⟩ = some (.int .i64 (S'.most : Int))) (h3 : (w.setCell ⟨gy, j, none⟩ v).cell? ⟨gy, 3, none⟩ = some (.int .i64 (S'.built : Int))) :
  YR (w.setCell ⟨gy, j, none⟩ v) gy base S' := by
 obtain ⟨⟨p, F, t1, t2, t3, t4, t5⟩, _, _, _, g5, g6⟩ := h
 refine ⟨⟨p, F, ?_, ?_, by rw [hT]; exact t3.set t4, t4, t5⟩, h1, h2, h3, fun i => by rw [World.frozen?_setCell]; exact g5 i, g6⟩
 ·rw [World.cell?_setCell_other _ _ _ _ (by first | (simp; done) | (simp; omega))]; exact t1
 ·rw [World.frozen?_setCell]; exact t2
theorem kp_setY {w0 w : World} {gy j : Nat} {v : Value} (h : Kp w0 w) (hB : w0.heap.size <= gy) : Kp w0 (w.setCell ⟨gy, j, none⟩ v) := h.set hB v
theorem at_depth {w : World} {nt : TypeId} {r0 : Addr} {T : MT IP} {F : List Nat} (key : Int) {p : Option Addr} (hc : w.cell? r0 = some (.pointer p)) (hf : w.frozen? r0 = false) (hm : MR w nt eFst T p F) : ∀ n, n <= lenT T key -> ∃ C q t p' Fc Ft, At_ w nt eFst Prod.fst r0 T F key C q t p' Fc Ft /\ C.length = n
 | 0, _ => ⟨[], r0, T, p, [], F, At_.start key hc hf hm, rfl⟩
 | n + 1, h => by
  obtain ⟨C, q, t, p', Fc, Ft, ha, hl⟩ := at_depth key hc hf hm n (by omega)
  have he := lenT_plug C t key ha.dir
  rw [<- ha.eq, hl] at he
  cases p' with
  | none =>
   obtain ⟨rfl, _⟩ := ha.mr.of_none
   simp only [lenT] at he; omega
  | some ad =>
   obtain ⟨a, l, r, b, pl, pr, Fl, Fr, rfl, rfl, rfl, hb, g1, g2, g3, hl2, hr2⟩ := ha.mr.of_some
   have hd := ha.down hb g1 g2 g3 hl2 hr2
   rcases Int.lt_trichotomy key a.1 with hk | hk | hk
   ·exact ⟨_, _, _, _, _, _, hd.1 hk, by simp [hl]⟩
   ·simp only [lenT, if_pos hk] at he; omega
   ·exact ⟨_, _, _, _, _, _, hd.2 hk, by simp [hl]⟩
theorem fixT_end {t : MT IP} {k : Int} (h : lenT t k = 0) : (fixT t k).2.2 = false := by
 cases t with
 | nil => rfl
 | node a l r =>
  unfold lenT at h
  unfold fixT
  split at h
  ·rename_i h1; rw [if_pos h1]
  ·split at h <;> omega
def Pu1 (w : World) (r0 : Addr) (T : MT IP) (F : List Nat) (key : Int) (av qv : Value) (wr : World) : Prop :=
 ∃ C q t p Fc Ft L, qv = .pointer (some q) /\ At_ w 256 eFst Prod.fst r0 T F key C q t p Fc Ft /\ OW wr w.heap.size 254 eLnk av L /\ ChL w key r0 L q /\ L.length = C.length /\ L.length + t.size <= T.size /\ Kp w wr
def Pu2 (w : World) (r0 : Addr) (T : MT IP) (F : List Nat) (key : Int) (n : Nat) (kv : Value) (wr : World) : Prop :=
 ∃ j C q t p Fc Ft, j <= n /\ kv = .int .i64 ((j : Int) - 1) /\ C.length = j /\ At_ w 256 eFst Prod.fst r0 T F key C q t p Fc Ft /\ (fixT t key).2.2 = false /\ Kp w wr
theorem gtPut_any (S : Gt) (key : Int) (gy : Nat) (w0 w : World) (hy : YR w gy w0.heap.size S) (hk : Kp w0 w) (hok : GtOk S) (hm : S.many <= 500) (hmo : S.most <= 500) (hb : S.built <= 100000000) :
  Calls Tryz.prog 138 #[.pointer (some ⟨gy, 0, none⟩), .int .i64 key] w (YPost gy (S.put key) w0) := by
 obtain ⟨⟨p0, F, t1, t2, t3, t4, t5⟩, y1, y2, y3, yf, yB⟩ := hy
 have hgl : gy < w.heap.size := World.block_lt_of_cell? _ _ t1
 have hFl : ∀ x ∈ F, x < w.heap.size := t3.lt
 have HY := hide (show YR w gy w0.heap.size S from ⟨⟨p0, F, t1, t2, t3, t4, t5⟩, y1, y2, y3, yf, yB⟩)
 have HA0 := hide (At_.start (kf := Prod.fst) key t1 t2 t3)
 have HK := hide hk
 have HOK := hide hok
 have HTS : Hid (S.T.size <= 500) := hide (by rw [<- hok.many]; exact hm)
 have H4 := hide t4
 have H5 := hide t5
 have HFL := hide hFl
 have HGL := hide hgl
 have HYF := hide yf
 have HB := hide yB
 have HM := hide hm
 have HMO := hide hmo
 have HBT := hide hb
 have HY1 := hide y1
 have HY2 := hide y2
 have HY3 := hide y3
 clear hk hok t1 t2 t3 t4 t5 hFl hgl yf yB hm hmo hb y1 y2 y3
 go_enter Tryz.func138, Tryz.ntmps138
 go_wp2
 go_loopw [4, 5] (Pu1 w ⟨gy, 0, none⟩ S.T F key) (fun _ qv _ => szAt 256 eFst qv w)
 case atStart => exact ⟨[], _, _, _, _, _, [], rfl, HA0.out, OW.nil, ChL.start _ _ _, rfl, by simp, Kp.refl _⟩
 case round =>
  obtain ⟨C, q, t, p, Fc, Ft, L, rfl, ha, how, hch, hlc, hls, hkp⟩ := hrel
  have HA := hide ha
  have c0 := hkp.cell ha.cell
  have hmr := ha.mr
  have HOW := hide how
  have HCH := hide hch
  have HLC := hide hlc
  have HLS := hide hls
  have hi := how.hi
  cases p with
  | some ad =>
   obtain ⟨a, l, r, b, pl, pr, Fl, Fr, rfl, rfl, rfl, hb, g1, g2, g3, hl, hr⟩ := hmr.of_some
   have ck0 : w.cell? ⟨b, 0, none⟩ = some (.int .i64 a.1) := hb.cell 0
   have HCK := hide ck0
   have HD := hide (ha.down hb g1 g2 g3 hl hr)
   have hms := szAt_eq ha.cell hmr
   have hml : ∀ h : True, szAt 256 eFst (.pointer (some ⟨b, 1, none⟩)) w = l.size := fun _ => szAt_eq (hb.link true) hl
   have hmr2 : ∀ h : True, szAt 256 eFst (.pointer (some ⟨b, 2, none⟩)) w = r.size := fun _ => szAt_eq (hb.link false) hr
   have HMS := hide hms
   have HML := hide hml
   have HMR := hide hmr2
   have HCS := hide (hch.snoc ha.cell ck0)
   simp only [MT.size] at hls
   have hT := HTS.out
   have HM1 : Hid ((L.length + [q].length) * 8 <= 140737488355328) := hide (by simp; omega)
   have HM2 : Hid (L.length + [q].length <= maxLen) := hide (by simp [maxLen]; omega)
   have hlen1 : (L ++ [q]).length = L.length + 1 := by simp
   have HL1 := hide hlen1
   have HSL : Hid (L.length + 1 + l.size <= S.T.size /\ L.length + 1 + r.size <= S.T.size) := hide (by omega)
   clear ha how hch hlc hls hmr hb g1 g2 g3 hl hr hms hml hmr2 hT ck0 hlen1
   rcases Int.lt_trichotomy key a.1 with hkk | hkk | hkk
   ·have d1 : (key == a.1) = false := by simp; omega
    have d2 : decide (key < a.1) = true := decide_eq_true hkk
    have HN := hide (HD.out.1 hkk)
    have HCN : Hid (ChL w key ⟨gy, 0, none⟩ (L ++ [q]) ⟨b, 1, none⟩) := hide (by have := HCS.out; rwa [if_pos hkk] at this)
    go_wp2_with ((at_builtin; (with_reducible refine list_app (B := w.heap.size) (l := L) (m := [q]) row_link u4 ?_ (.tmp 18) (.tmp 20) ?_ ?_ ?_ ?_ HM1.out HM2.out ?_ ?_); (with_reducible rfl); (with_reducible rfl); rfl; (exact HOW.out.alloc _); (show RD _ _ (.slice (some ⟨_, 0, none⟩) 1 1) _; (exact RD.auto)); (have := hkp.size; simp; omega); intro v9 w9 ho9 hg9 hat9); have kk9 : Kp w w9 := Kp.app hg9 hkp.alloc hi; have z0 := kk9.cell HA.out.cell; have zk := kk9.cell HCK.out)
    go_roundw
    case rel => exact ⟨_, _, _, _, _, _, L ++ [q], rfl, HN.out, ho9, HCN.out, by rw [HL1.out, HLC.out]; rfl, by rw [HL1.out]; exact HSL.out.1, kk9⟩
    case measure => rw [HML.out trivial, HMS.out]; simp only [MT.size]; omega
   ·have d1 : (key == a.1) = true := by simp [hkk]
    have HIN : Hid (S.put key = S) := hide (by
     have h1 : key ∈ kM S.T := by rw [HA.out.eq]; exact mem_plug C _ key (by simp [kM_node, hkk])
     unfold Gt.put; rw [if_pos h1])
    go_wp2_with ((at_builtin; (with_reducible refine list_app (B := w.heap.size) (l := L) (m := [q]) row_link u4 ?_ (.tmp 18) (.tmp 20) ?_ ?_ ?_ ?_ HM1.out HM2.out ?_ ?_); (with_reducible rfl); (with_reducible rfl); rfl; (exact HOW.out.alloc _); (show RD _ _ (.slice (some ⟨_, 0, none⟩) 1 1) _; (exact RD.auto)); (have := hkp.size; simp; omega); intro v9 w9 ho9 hg9 hat9); have kk9 : Kp w w9 := Kp.app hg9 hkp.alloc hi; have z0 := kk9.cell HA.out.cell; have zk := kk9.cell HCK.out)
    exact bodyPost_ret (v := .tuple #[]) (by simp [results, Tryz.results138, go_sem]) rfl ⟨rfl, by rw [HIN.out]; exact HY.out.kp kk9, HK.out.trans kk9⟩
   ·have d1 : (key == a.1) = false := by simp; omega
    have d2 : decide (key < a.1) = false := decide_eq_false (by omega)
    have HN := hide (HD.out.2 hkk)
    have HCN : Hid (ChL w key ⟨gy, 0, none⟩ (L ++ [q]) ⟨b, 2, none⟩) := hide (by have := HCS.out; rwa [if_neg (by omega)] at this)
    go_wp2_with ((at_builtin; (with_reducible refine list_app (B := w.heap.size) (l := L) (m := [q]) row_link u4 ?_ (.tmp 18) (.tmp 20) ?_ ?_ ?_ ?_ HM1.out HM2.out ?_ ?_); (with_reducible rfl); (with_reducible rfl); rfl; (exact HOW.out.alloc _); (show RD _ _ (.slice (some ⟨_, 0, none⟩) 1 1) _; (exact RD.auto)); (have := hkp.size; simp; omega); intro v9 w9 ho9 hg9 hat9); have kk9 : Kp w w9 := Kp.app hg9 hkp.alloc hi; have z0 := kk9.cell HA.out.cell; have zk := kk9.cell HCK.out)
    go_roundw
    case rel => exact ⟨_, _, _, _, _, _, L ++ [q], rfl, HN.out, ho9, HCN.out, by rw [HL1.out, HLC.out]; rfl, by rw [HL1.out]; exact HSL.out.2, kk9⟩
    case measure => rw [HMR.out trivial, HMS.out]; simp only [MT.size]; omega
  | none =>
   obtain ⟨rfl, rfl⟩ := hmr.of_none
   have hup := HOK.out.up
   have hni : key ∉ kM S.T := by rw [HA.out.eq]; exact notin_plug C .nil key (by rw [<- HA.out.eq]; exact hup) HA.out.dir (by intro h; cases h)
   have hins : ins S.T (key, 0) = plug C (.node (key, 0) .nil .nil) := by rw [HA.out.eq, ins_plug C _ HA.out.dir]; rfl
   have hlenT : lenT S.T key = L.length := by rw [HA.out.eq, lenT_plug C _ key HA.out.dir, hlc]; simp [lenT]
   obtain ⟨mo', hmo'⟩ : ∃ x, x = max S.most (S.many + 1) := ⟨_, rfl⟩
   have HPUT : Hid (S.put key = if L.length <= deepF mo' then ⟨ins S.T (key, 0), S.many + 1, mo', S.built⟩ else ⟨(fixT (ins S.T (key, 0)) key).1, S.many + 1, mo', S.built + (fixT (ins S.T (key, 0)) key).2.1⟩) := hide (by
    unfold Gt.put; rw [if_neg hni, hlenT, hmo'])
   have HMX := hide hmo'
   have HINS := hide hins
   have HLEN := hide hlenT
   have hmn := HM.out
   have hms2 := HMO.out
   have f0 : wr.frozen? q = false := (hkp.frozen (World.block_lt_of_cell? _ _ HA.out.cell)).trans HA.out.fz
   have HKP := hide hkp
   have kal : Kp wr (wr.alloc (.cells #[.int .i64 key, .pointer none, .pointer none] 256)) := (Kp.refl wr).alloc
   have hqw := World.block_lt_of_cell? _ _ HA.out.cell
   have hqr : q.block < wr.heap.size := Nat.lt_of_lt_of_le hqw hkp.size
   have c9 := kal.cell c0
   have f9 : (wr.alloc (.cells #[.int .i64 key, .pointer none, .pointer none] 256)).frozen? q = false := (kal.frozen hqr).trans f0
   have kk9 := hkp.trans kal
   have hleaf : MR (wr.alloc (.cells #[.int .i64 key, .pointer none, .pointer none] 256)) 256 eFst (.node (key, 0) .nil .nil) (some ⟨wr.heap.size, 0, none⟩) [wr.heap.size] := MR.leaf (E := eFst) wr (key, 0)
   obtain ⟨hYR, hKW⟩ := yr_put HA.out H4.out H5.out HFL.out HB.out HK.out HGL.out HYF.out kk9 hleaf (fun x hx => by rw [List.mem_singleton] at hx; subst hx; exact hkp.size) (kk9.cell HY1.out) (kk9.cell HY2.out) (kk9.cell HY3.out)
   rw [<- hins] at hYR
   have HCH2 : Hid (ChL ((wr.alloc (.cells #[.int .i64 key, .pointer none, .pointer none] 256)).setCell q (.pointer (some ⟨wr.heap.size, 0, none⟩))) key ⟨gy, 0, none⟩ L q) := hide ((hch.kp kk9).set (fun b h => by rw [c9] at h; injection h with h; injection h with h; cases h) (fun _ K h => by rw [c9] at h; injection h with h; cases h))
   have HRD2 : Hid (RD ((wr.alloc (.cells #[.int .i64 key, .pointer none, .pointer none] 256)).setCell q (.pointer (some ⟨wr.heap.size, 0, none⟩))) eLnk u4 L) := hide ((how.rd.alloc _).kf ((Kf.refl (fun i => i = q.block) _).set (.inl rfl)) (fun _ k hk e => by have := (how.lt k hk).1; omega))
   obtain ⟨A4, a4, hu4, _, _⟩ := how.rd.shape
   subst hu4
   have HYR := hide hYR
   have HKW := hide hKW
   have e1 := hYR.2.1
   have e2 := hYR.2.2.2.2.1 1
   have hw1 : IntKind.i64.wrap ((S.many : Int) + 1) = ((S.many + 1 : Nat) : Int) := by rw [IntWalk.i64_in _ (by omega)]; omega
   clear hup hni hins hlenT hch hlc hls hmr ha hYR hKW kal hqw hqr kk9 hleaf
   go_wp2_with fail
   obtain ⟨W2, hW2⟩ : ∃ W2, W2 = (wr.alloc (.cells #[.int .i64 key, .pointer none, .pointer none] 256)).setCell q (.pointer (some ⟨wr.heap.size, 0, none⟩)) := ⟨_, rfl⟩
   rw [<- hW2] at HYR HKW HCH2 HRD2 e1 e2 ⊢
   obtain ⟨W3, hW3⟩ : ∃ W3, W3 = W2.setCell ⟨gy, 1, none⟩ (.int .i64 ((S.many : Int) + 1)) := ⟨_, rfl⟩
   rw [<- hW3]
   have hY3 : YR W3 gy w0.heap.size ⟨ins S.T (key, 0), S.many + 1, S.most, S.built⟩ := by
    rw [hW3]
    refine HYR.out.set (by omega) rfl ?_ ?_ ?_
    ·exact World.cell?_setCell_same' W2 _ _ (by rw [e1]; rfl)
    ·rw [World.cell?_setCell_other _ _ _ _ (by simp)]; exact HYR.out.2.2.1
    ·rw [World.cell?_setCell_other _ _ _ _ (by simp)]; exact HYR.out.2.2.2.1
   have hch3 : ChL W3 key ⟨gy, 0, none⟩ L q := by
    rw [hW3]
    exact HCH2.out.set (fun b h => by rw [e1] at h; injection h with h; cases h) (fun h => by simp at h)
   have hqy : ∀ k, (Value.slice A4 L.length a4).ownBlock = some k -> k ≠ gy := fun k hk e => by have h1 := how.lt k hk; have := HGL.out; omega
   have hrd3 : RD W3 eLnk (.slice A4 L.length a4) L := by
    rw [hW3]
    exact HRD2.out.kf ((Kf.refl (fun i => i = gy) _).set (.inl rfl)) (fun _ k hk e => hqy k hk e)
   have hkw3 : Kp w0 W3 := by rw [hW3]; exact kp_setY HKW.out HB.out
   have g1 := hY3.2.1
   have g2 := hY3.2.2.1
   have f2 := hY3.2.2.2.2.1 2
   have hmax : max (S.most : Int) ((S.many : Int) + 1) = (mo' : Int) := by rw [hmo']; omega
   have hmo2 : mo' <= 501 := by rw [hmo']; omega
   have HY3' := hide hY3
   have HCH3 := hide hch3
   have HRD3 := hide hrd3
   have HKW3 := hide hkw3
   have HQY := hide hqy
   have HM2' := hide hmo2
   simp only [Int.natCast_add, Int.cast_ofNat_Int] at g1
   clear hW2 hW3 hY3 hch3 hrd3 hkw3 hqy e1 e2 f0 f9 c9 c0 hmo'
   go_still_tail 12, (by kernel_rfl)
   change wpList _ _ _ _ _ W3.drew
   go_wp2_with fail
   obtain ⟨W4, hW4⟩ : ∃ W4, W4 = (W3.setCell ⟨gy, 2, none⟩ (.int .i64 (mo' : Int))).drew := ⟨_, rfl⟩
   rw [<- hW4]
   have kdr : Kp (W3.setCell ⟨gy, 2, none⟩ (.int .i64 (mo' : Int))) W4 := by rw [hW4]; exact (Kp.refl _).drew
   have hY4 : YR W4 gy w0.heap.size ⟨ins S.T (key, 0), S.many + 1, mo', S.built⟩ := by
    refine YR.kp ?_ kdr
    refine HY3'.out.set (by omega) rfl ?_ ?_ ?_
    ·rw [World.cell?_setCell_other _ _ _ _ (by simp)]; exact HY3'.out.2.1
    ·exact World.cell?_setCell_same' W3 _ _ (by rw [g2]; rfl)
    ·rw [World.cell?_setCell_other _ _ _ _ (by simp)]; exact HY3'.out.2.2.2.1
   have hch4 : ChL W4 key ⟨gy, 0, none⟩ L q := (HCH3.out.set (fun b h => by rw [g2] at h; injection h with h; cases h) (fun h => by simp at h)).kp kdr
   have hrd4 : RD W4 eLnk (.slice A4 L.length a4) L := (HRD3.out.kf ((Kf.refl (fun i => i = gy) _).set (.inl rfl)) (fun _ k hk e => HQY.out k hk e)).kp kdr
   have hkw4 : Kp w0 W4 := (kp_setY HKW3.out HB.out).trans kdr
   have HY4 := hide hY4
   have HCH4 := hide hch4
   have HRD4 := hide hrd4
   have HKW4 := hide hkw4
   have x2 := hY4.2.2.1
   clear hW4 kdr hY4 hch4 hrd4 hkw4 g1 g2 f2 hmax
   refine (gtDeepest_any mo' (by have := HM2'.out; omega) W4).mono ?_
   rintro e w5 ⟨rfl, rfl⟩
   obtain ⟨D, hD⟩ : ∃ D, D = deepF mo' := ⟨_, rfl⟩
   rw [<- hD] at HPUT ⊢
   clear hD
   by_cases hLD : L.length <= D
   ·have d1 : decide (L.length <= D) = true := decide_eq_true hLD
    have d2 : (L.length : Int) <= (D : Int) := by omega
    have HP : Hid (S.put key = ⟨ins S.T (key, 0), S.many + 1, mo', S.built⟩) := hide (by rw [HPUT.out, if_pos hLD])
    clear hLD
    go_wp2
    exact bodyPost_ret (v := .tuple #[]) (by simp [results, Tryz.results138, go_sem]) rfl ⟨rfl, by rw [HP.out]; exact HY4.out, HKW4.out⟩
   ·have d1 : decide (L.length <= D) = false := decide_eq_false hLD
    have d2 : ¬ (L.length : Int) <= (D : Int) := by omega
    have HP : Hid (S.put key = ⟨(fixT (ins S.T (key, 0)) key).1, S.many + 1, mo', S.built + (fixT (ins S.T (key, 0)) key).2.1⟩) := hide (by rw [HPUT.out, if_neg hLD])
    have hLs : L.length <= 500 := by have := HLS.out; have := HTS.out; omega
    have hw2 : IntKind.i64.wrap ((L.length : Int) - 1) = (L.length : Int) - 1 := IntWalk.i64_in _ (by omega)
    obtain ⟨⟨p1, F1, s1, s2, s3, s4, s5⟩, _, _, _, s6, _⟩ := HY4.out
    have hni : key ∉ kM S.T := by rw [HA.out.eq]; exact notin_plug C .nil key (by rw [<- HA.out.eq]; exact HOK.out.up) HA.out.dir (by intro h; cases h)
    obtain ⟨C2, q2, t2, p2, Fc2, Ft2, ha2, hl2⟩ := at_depth key s1 s2 s3 L.length (by simp only; rw [lenT_ins _ _ hni, HLEN.out]; exact Nat.le_refl _)
    have hte : lenT t2 key = 0 := by
     have h1 := lenT_plug C2 t2 key ha2.dir
     rw [<- ha2.eq, hl2] at h1
     simp only at h1
     rw [lenT_ins _ _ hni, HLEN.out] at h1
     omega
    have HREL : Hid (Pu2 W4 ⟨gy, 0, none⟩ (ins S.T (key, 0)) F1 key L.length (.int .i64 ((L.length : Int) - 1)) W4) := hide ⟨L.length, C2, q2, t2, p2, Fc2, Ft2, Nat.le_refl _, rfl, hl2, ha2, fixT_end hte, Kp.refl _⟩
    have HISZ : Hid ((ins S.T (key, 0)).size <= 501) := hide (by rw [ins_new_size _ _ HOK.out.up hni]; have := HTS.out; omega)
    have HF1L : Hid (∀ x ∈ F1, x < W4.heap.size) := hide s3.lt
    have HF1 := hide s5
    have HGL4 : Hid (gy < W4.heap.size) := hide (World.block_lt_of_cell? _ _ s1)
    have HG1 := hide s4
    have HFZ4 := hide s6
    have HFR := hide s2
    clear hLD s1 s2 s3 s4 s5 s6 hni ha2 hl2 hte
    go_wp2
    go_loopw [7] (Pu2 W4 ⟨gy, 0, none⟩ (ins S.T (key, 0)) F1 key L.length) (fun kv _ => (intOf kv + 1).toNat)
    case atStart => exact HREL.out
    case round =>
     clear HREL
     obtain ⟨j, C3, q3, t3, p3, Fc3, Ft3, hj, rfl, hcl, ha3, hfx, hkr⟩ := hrel
     cases j with
     | zero =>
      obtain rfl : C3 = [] := List.eq_nil_of_length_eq_zero hcl
      have HPZ : Hid (S.put key = ⟨ins S.T (key, 0), S.many + 1, mo', S.built⟩) := hide (by
       have e := ha3.eq
       simp only [plug] at e
       rw [HP.out, e]
       obtain ⟨n1, n2⟩ := fixT_nb t3 key hfx
       rw [n1, n2]; rfl)
      have hz : (((0 : Nat) : Int)) - 1 = -1 := by omega
      rw [hz]
      clear ha3 hfx hcl hz
      go_wp2
      exact bodyPost_ret (v := .tuple #[]) (by simp [results, Tryz.results138, go_sem]) rfl ⟨rfl, by rw [HPZ.out]; exact HY4.out.kp hkr, HKW4.out.trans hkr⟩
     | succ j =>
      cases C3 with
      | nil => simp at hcl
      | cons f C3 =>
       have hz : (((j + 1 : Nat) : Int)) - 1 = (j : Int) := by omega
       rw [hz]
       obtain ⟨b, q4, Fc4, Ft4, hq3, _, hq4, ha4⟩ := ha3.upf HFR.out
       have hcl' : C3.length = j := by simpa using hcl
       have hchn := At_.chain HCH4.out HFR.out C3 q4 _ _ _ _ ha4 (by omega)
       have hlj : j < L.length := by omega
       rw [hcl', List.getElem?_append_left hlj, List.getElem?_eq_getElem hlj] at hchn
       injection hchn with hchn
       obtain ⟨ba, oa, rfl, _, cw⟩ := (HRD4.out.kp hkr).ptr hlj
       rw [hchn] at cw
       have cq4 := hkr.cell hq4
       have hdf := ha3.dir f (by simp)
       obtain ⟨l, r, hon⟩ := on_node f t3
       have hfh := fixT_here hdf t3 hfx l r hon
       rw [hon] at ha4 hfh
       have hmr := ha4.mr
       obtain ⟨b2, pl, pr, Fl, Fr, e1, e2, hbc, _, _, _, hl, hr⟩ := hmr
       injection e1 with e1
       injection e1 with e1
       subst e1
       have hisz : l.size + 1 + r.size <= 501 := by
        have h1 := congrArg MT.size ha4.eq
        have h2 := HISZ.out
        have h3 : ∀ (C : List (Fm IP)) (u : MT IP), u.size <= (plug C u).size := by
         intro C
         induction C with
         | nil => intro u; exact Nat.le_refl _
         | cons g C ih =>
          intro u
          refine Nat.le_trans ?_ (ih (g.on u))
          unfold Fm.on
          split <;> (simp only [MT.size]; omega)
        have h4 := h3 C3 (.node f.a l r)
        simp only [MT.size] at h4
        omega
       have HNS : Hid ((MT.node f.a l r).size <= 501) := hide hisz
       have cl : wr.cell? ⟨b, 1, none⟩ = some (.pointer pl) := hkr.cell (hbc.cell 1)
       have cr : wr.cell? ⟨b, 2, none⟩ = some (.pointer pr) := hkr.cell (hbc.cell 2)
       have IHL := hide (fun n => gtSize_any l pl Fl (wr.drewN n) (hl.kp hkr.drewN) (by omega))
       have IHR := hide (fun n => gtSize_any r pr Fr (wr.drewN n) (hr.kp hkr.drewN) (by omega))
       obtain ⟨sa, hsa⟩ : ∃ x, x = l.size := ⟨_, rfl⟩
       obtain ⟨sb, hsb⟩ : ∃ x, x = r.size := ⟨_, rfl⟩
       have hle : leans l r = decide (2 * (sa + sb + 1) < 3 * max sa sb) := by unfold leans; rw [hsa, hsb]
       rw [<- hsa] at IHL hisz
       rw [<- hsb] at IHR hisz
       obtain ⟨mx, hmx⟩ : ∃ x, x = max sa sb := ⟨_, rfl⟩
       have hMX : max (sa : Int) (sb : Int) = (mx : Int) := by omega
       have hmxb : mx <= 501 := by omega
       obtain ⟨P, hP⟩ : ∃ x, x = 3 * mx := ⟨_, rfl⟩
       obtain ⟨Q, hQ⟩ : ∃ x, x = 2 * (sa + sb + 1) := ⟨_, rfl⟩
       rw [<- hmx, <- hP, <- hQ] at hle
       have v1 : IntKind.i64.wrap (3 * (mx : Int)) = (P : Int) := by rw [IntWalk.i64_in _ (by omega)]; omega
       have v2 : IntKind.i64.wrap ((sa : Int) + (sb : Int)) = (sa : Int) + (sb : Int) := IntWalk.i64_in _ (by omega)
       have v3 : IntKind.i64.wrap ((sa : Int) + (sb : Int) + 1) = (sa : Int) + (sb : Int) + 1 := IntWalk.i64_in _ (by omega)
       have v4 : IntKind.i64.wrap (2 * ((sa : Int) + (sb : Int) + 1)) = (Q : Int) := by rw [IntWalk.i64_in _ (by omega)]; omega
       have v5 : IntKind.i64.wrap ((j : Int) - 1) = (j : Int) - 1 := IntWalk.i64_in _ (by omega)
       have i0 : (0 : Int) <= (j : Int) := by omega
       have i1 : (j : Int) < (L.length : Int) := by omega
       have HA4 := hide ha4
       have HFH := hide hfh
       have HLE := hide hle
       have HJ := hide (And.intro hj hcl')
       have HON := hide hon
       clear hj hcl hcl' ha3 hfx hz hq3 hq4 ha4 hchn hdf hon hfh hbc hl hr hsa hsb hmx hmxb hP hQ hle hisz e2
       by_cases hln : Q < P
       ·have d3 : decide (Q < P) = true := decide_eq_true hln
        have HL2 : Hid (leans l r = true) := hide (by rw [HLE.out]; exact d3)
        clear hln
        go_wp2_with fail
        go_quiet ((first | (go_at_call_of 178 (Value.pointer pl); exact Calls.quiet_of (IHL.out _)) | (go_at_call_of 178 (Value.pointer pr); exact Calls.quiet_of (IHR.out _))))
        go_wp2_with fail
        obtain ⟨wn, hwn⟩ : ∃ x, x = wr.drewN nq := ⟨_, rfl⟩
        rw [<- hwn]
        have kn : Kp W4 wn := by rw [hwn]; exact hkr.drewN
        have HAN := hide (gtAnew_any (w0 := w0) (S.many + 1) mo' S.built (HA4.out.kp kn HGL4.out HF1L.out) HG1.out HF1.out (fun x hx => Nat.lt_of_lt_of_le (HF1L.out x hx) kn.size) HB.out (HKW4.out.trans kn) (kn.cell HY4.out.2.1) (kn.cell HY4.out.2.2.1) (kn.cell HY4.out.2.2.2.1) (fun i => (kn.frozen (p := ⟨gy, i, none⟩) HGL4.out).trans (HFZ4.out i)) (by have := HNS.out; omega) (by have := HNS.out; have := HBT.out; omega))
        have HPE : Hid (S.put key = ⟨plug C3 (evenT (kM (.node f.a l r))), S.many + 1, mo', S.built + (MT.node f.a l r).size⟩) := hide (by
         have h1 := HFH.out
         rw [if_pos HL2.out] at h1
         have h2 := fixT_plug C3 (.node f.a l r) key HA4.out.dir (by rw [h1])
         rw [h1, <- HA4.out.eq] at h2
         rw [HP.out, h2])
        clear hwn kn
        refine HAN.out.mono ?_
        rintro e w6 ⟨rfl, hy6, hk6⟩
        have HY6 := hide hy6
        clear hy6
        go_wp2
        exact bodyPost_ret (v := .tuple #[]) (by simp [results, Tryz.results138, go_sem]) rfl ⟨rfl, by rw [HPE.out]; exact HY6.out, hk6⟩
       ·have d3 : decide (Q < P) = false := decide_eq_false hln
        have HL2 : Hid (leans l r = false) := hide (by rw [HLE.out]; exact d3)
        clear hln
        go_wp2_with fail
        go_quiet ((first | (go_at_call_of 178 (Value.pointer pl); exact Calls.quiet_of (IHL.out _)) | (go_at_call_of 178 (Value.pointer pr); exact Calls.quiet_of (IHR.out _))))
        go_wp2
        go_roundw
        case rel => exact ⟨j, C3, q4, .node f.a l r, _, Fc4, Ft4, by have := HJ.out; omega, rfl, HJ.out.2, HA4.out, by have h1 := HFH.out; rw [if_neg (by rw [HL2.out]; simp)] at h1; rw [h1], hkr.drewN⟩
        case measure => first | (simp [intOf]; done) | (simp [intOf]; omega)
end Go.Proofs.YtcljlnagpjilaaaGreatDoor
