/-
  hedgref.VineKeys, pressed, Evened: what they answer. Conditions: the tree is read (TR); of pressed: so many can come up; of Evened: the list reads as l (RD), of 200 at most.
-/
import Derived.Test.YtnpogfodopodoaaRot2
import Derived.Test.YtnpogfodopodoaaSpotsR
namespace Go.Proofs.Ytnpogfodopodoaa
open Go.ChangeShapes Go.WideShapes Go.ChangeAt Go.RowKit
set_option linter.unusedVariables false
set_option linter.unusedSimpArgs false

def toM : T → MT Int
  | .nil => .nil
  | .node k l r => .node k (toM l) (toM r)
def ofM : MT Int → T
  | .nil => .nil
  | .node k l r => .node k (ofM l) (ofM r)
theorem toM_ofM : ∀ t : MT Int, toM (ofM t) = t
  | .nil => rfl
  | .node k l r => by simp [toM, ofM, toM_ofM l, toM_ofM r]
theorem ofM_toM : ∀ t : T, ofM (toM t) = t
  | .nil => rfl
  | .node k l r => by simp [toM, ofM, ofM_toM l, ofM_toM r]
theorem toM_spots : ∀ (t : T) (d : Int), (toM t).spotsBy id d = t.spots d
  | .nil, _ => rfl
  | .node k l r, d => by simp [toM, MT.spotsBy, T.spots, toM_spots l, toM_spots r]
theorem toM_size : ∀ (t : T), (toM t).size = t.size
  | .nil => rfl
  | .node k l r => by simp [toM, MT.size, T.size, toM_size l, toM_size r]
/-- A tree that is read, in words of the written ones. -/
def TM (w : World) (t : MT Int) (p : Option Addr) : Prop := TR w (ofM t) p
theorem TM.nil {w : World} : TM w .nil none := rfl
theorem TM.kp {w w' : World} {t : MT Int} {p : Option Addr} (h : TM w t p) (hk : Kp w w') : TM w' t p := TR.kp h hk
theorem TM.node {w : World} {a : Int} {l r : MT Int} {p : Option Addr} (h : TM w (.node a l r) p) : ∃ b pl pr, p = some ⟨b, 0, none⟩ ∧ b < w.heap.size ∧ w.cell? ⟨b, 0, none⟩ = some (.int .i64 a) ∧ w.cell? ⟨b, 1, none⟩ = some (.pointer pl) ∧ w.cell? ⟨b, 2, none⟩ = some (.pointer pr) ∧ TM w l pl ∧ TM w r pr := h
theorem TM.mk {w : World} {k : Int} {l r : MT Int} {pl pr : Option Addr} (hl : TM w l pl) (hr : TM w r pr) (tt : TypeId) : TM (w.alloc (.cells #[.int .i64 k, .pointer pl, .pointer pr] tt)) (.node k l r) (some ⟨w.heap.size, 0, none⟩) := TR.mk hl hr tt
theorem TM.uniq {w : World} : ∀ {t t' : MT Int} {p : Option Addr}, TM w t p → TM w t' p → t = t'
  | .nil, .nil, _, _, _ => rfl
  | .nil, .node _ _ _, p, h, h' => by obtain ⟨b, pl, pr, e, _⟩ := h'.node; have h : p = none := h; rw [h] at e; cases e
  | .node _ _ _, .nil, p, h, h' => by obtain ⟨b, pl, pr, e, _⟩ := h.node; have h' : p = none := h'; rw [h'] at e; cases e
  | .node a l r, .node a' l' r', p, h, h' => by
    obtain ⟨b, pl, pr, rfl, _, c0, c1, c2, hl, hr⟩ := h.node
    obtain ⟨b', pl', pr', e, _, c0', c1', c2', hl', hr'⟩ := h'.node
    injection e with e
    injection e with e
    subst e
    rw [c0] at c0'; rw [c1] at c1'; rw [c2] at c2'
    injection c0' with c0'; injection c0' with _ c0'
    injection c1' with c1'; injection c1' with c1'
    injection c2' with c2'; injection c2' with c2'
    subst c0' c1' c2'
    rw [TM.uniq hl hl', TM.uniq hr hr']
noncomputable def mesT (v : Value) (w : World) : Nat := by
  classical
  exact if h : ∃ (t : MT Int) (p : Option Addr), v = .pointer p ∧ TM w t p then h.choose.size + (toldT h.choose).length else 0
theorem mesT_eq {w : World} {t : MT Int} {p : Option Addr} (hm : TM w t p) : mesT (.pointer p) w = t.size + (toldT t).length := by
  unfold mesT
  have h : ∃ (t : MT Int) (p' : Option Addr), Value.pointer p = .pointer p' ∧ TM w t p' := ⟨t, p, rfl, hm⟩
  rw [dif_pos h]
  obtain ⟨p', h1, h2⟩ := h.choose_spec
  generalize h.choose = t' at h2
  injection h1 with h1
  subst h1
  rw [TM.uniq h2 hm]
/-- As TM; none of its blocks is the row of v. -/
def TX (v : Value) (w : World) : MT Int → Option Addr → Prop
  | .nil, p => p = none
  | .node a l r, p => ∃ b pl pr, p = some ⟨b, 0, none⟩ ∧ v.ownBlock ≠ some b ∧ b < w.heap.size ∧ w.cell? ⟨b, 0, none⟩ = some (.int .i64 a) ∧ w.cell? ⟨b, 1, none⟩ = some (.pointer pl) ∧ w.cell? ⟨b, 2, none⟩ = some (.pointer pr) ∧ TX v w l pl ∧ TX v w r pr
theorem TX.tm {v : Value} {w : World} : ∀ {t : MT Int} {p : Option Addr}, TX v w t p → TM w t p
  | .nil, _, h => h
  | .node _ _ _, _, ⟨b, pl, pr, h1, _, h2, h3, h4, h5, h6, h7⟩ => ⟨b, pl, pr, h1, h2, h3, h4, h5, TX.tm h6, TX.tm h7⟩
theorem TX.of {w : World} {v : Value} (hv : v.ownBlock = none) : ∀ {t : MT Int} {p : Option Addr}, TM w t p → TX v w t p
  | .nil, _, h => h
  | .node _ _ _, _, h => by
    obtain ⟨b, pl, pr, h1, h2, h3, h4, h5, h6, h7⟩ := h.node
    exact ⟨b, pl, pr, h1, by rw [hv]; simp, h2, h3, h4, h5, TX.of hv h6, TX.of hv h7⟩
theorem TX.mono {v v' : Value} {w w' : World} (hs : w.heap.size ≤ w'.heap.size) (hk : ∀ b, b < w.heap.size → v.ownBlock ≠ some b → v'.ownBlock ≠ some b ∧ w'.heap[b]? = w.heap[b]?) : ∀ {t : MT Int} {p : Option Addr}, TX v w t p → TX v' w' t p
  | .nil, _, h => h
  | .node _ _ _, _, ⟨b, pl, pr, h1, h0, h2, h3, h4, h5, h6, h7⟩ => by
    obtain ⟨e1, e2⟩ := hk b h2 h0
    exact ⟨b, pl, pr, h1, e1, by omega, (World.cell?_of_block e2).trans h3, (World.cell?_of_block e2).trans h4, (World.cell?_of_block e2).trans h5, TX.mono hs hk h6, TX.mono hs hk h7⟩
theorem TX.kp {v : Value} {w w' : World} {t : MT Int} {p : Option Addr} (h : TX v w t p) (hk : Kp w w') : TX v w' t p := TX.mono hk.size (fun b hb hv => ⟨hv, hk.bel.block b hb⟩) h
theorem TX.app {v v3 : Value} {w w3 : World} {t : MT Int} {p : Option Addr} (h : TX v w t p) (hk : KV v w w3) (hat : v3.ownBlock = v.ownBlock ∨ Hi w.heap.size v3) : TX v3 w3 t p :=
  TX.mono (KV.size hk) (fun b hb hv => ⟨by
    rcases hat with e | e
    · rw [e]; exact hv
    · intro e'; have := e b e'; omega, Kf.block hk hb hv⟩) h
theorem TX.mk {v : Value} {w : World} {k : Int} {l r : MT Int} {pl pr : Option Addr} (hl : TX v w l pl) (hr : TX v w r pr) (tt : TypeId) (hv : Lo w.heap.size v) : TX v (w.alloc (.cells #[.int .i64 k, .pointer pl, .pointer pr] tt)) (.node k l r) (some ⟨w.heap.size, 0, none⟩) := by
  have hk : Kp w (w.alloc (.cells #[.int .i64 k, .pointer pl, .pointer pr] tt)) := (Kp.refl w).alloc
  exact ⟨w.heap.size, pl, pr, rfl, fun e => by have := hv _ e; omega, by simp, cell_of_row _ _ 0 _ tt (0, 0) (heap_alloc_new w _), cell_of_row _ _ 1 _ tt (0, 0) (heap_alloc_new w _), cell_of_row _ _ 2 _ tt (0, 0) (heap_alloc_new w _), hl.kp hk, hr.kp hk⟩
def VkRel (T0 : MT Int) (w : World) (tv ov : Value) (wr : World) : Prop :=
  ∃ t p ks, tv = .pointer p ∧ TX ov wr t p ∧ OW wr w.heap.size 3 eInt ov ks ∧ ks ++ toldT t = toldT T0 ∧ Kp w wr
set_option maxRecDepth 100000 in
set_option maxHeartbeats 4000000 in
theorem vineKeys_any (T0 : MT Int) (p0 : Option Addr) (w : World) (hm : TM w T0 p0) (hs : T0.size ≤ 100000) : Calls Try.prog 14 #[.pointer p0] w (RetOW 3 eInt (toldT T0) w) := by
  have HM := hide hm
  have HTL := hide (toldT_len T0)
  clear hm
  go_enter Try.func14, Try.ntmps14
  go_wp2
  go_loopw [0, 3] (VkRel T0 w) (fun t _ wr => mesT t wr)
  case atStart => exact ⟨T0, p0, [], rfl, TX.of (by rfl) HM.out, OW.nil, rfl, Kp.refl _⟩
  case round =>
    obtain ⟨t, p, ks, rfl, ht, ho, hks, hkp⟩ := hrel
    have hi := ho.hi
    have HKS := hide hks
    have hms := mesT_eq ht.tm
    have HMS := hide hms
    have hkl : ks.length + (toldT t).length ≤ 100000 := by have := congrArg List.length hks; have := HTL.out; simp at *; omega
    clear hks hms
    cases t with
    | nil =>
      obtain rfl : p = none := ht
      have hks : ks = toldT T0 := by have h := HKS.out; simpa [toldT] using h
      go_wp2
      go_ret
      exact ⟨_, rfl, by rw [← hks]; exact ho, hkp.bel⟩
    | node a l r =>
      obtain ⟨b, pl, pr, rfl, hbv, hb, c0, c1, c2, hl, hr⟩ := ht
      cases l with
      | nil =>
        obtain rfl : pl = none := hl
        have HR := hide hr
        have hmr := hide (mesT_eq hr.tm)
        clear hr
        go_wp2
        go_roundw
        case rel => exact ⟨r, pr, ks, rfl, HR.out, ho, by have h := HKS.out; simpa [toldT, preT] using h, hkp⟩
        case measure => rw [hmr.out, HMS.out]; simp only [MT.size, toldT, preT, List.nil_append]; omega
      | node c x y =>
        obtain ⟨b2, px, py, rfl, hb2v, hb2, d0, d1, d2, hx, hy⟩ := hl
        have HM1 : Hid ((ks.length + [c].length) * 8 ≤ 140737488355328) := hide (by simp; omega)
        have HM2 : Hid (ks.length + [c].length ≤ maxLen) := hide (by simp [maxLen]; omega)
        have HX := hide hx
        have HY := hide hy
        have HR := hide hr
        have HO := hide ho
        have KS : Hid (∀ W', KV u3 wr W' → (W'.cell? ⟨b, 0, none⟩ = some (.int .i64 a) ∧ W'.cell? ⟨b, 1, none⟩ = some (.pointer (some ⟨b2, 0, none⟩)) ∧ W'.cell? ⟨b, 2, none⟩ = some (.pointer pr) ∧ W'.cell? ⟨b2, 0, none⟩ = some (.int .i64 c) ∧ W'.cell? ⟨b2, 1, none⟩ = some (.pointer px) ∧ W'.cell? ⟨b2, 2, none⟩ = some (.pointer py))) :=
          hide fun W' h => ⟨h.cell hbv c0, h.cell hbv c1, h.cell hbv c2, h.cell hb2v d0, h.cell hb2v d1, h.cell hb2v d2⟩
        clear hx hy hr
        go_wp2_with ((at_builtin; (with_reducible refine list_app (B := w.heap.size) (l := ks) (m := [c]) row_int u3 ?_ (.tmp 13) (.tmp 18) ?_ ?_ ?_ ?_ HM1.out HM2.out ?_ ?_); (with_reducible rfl); (with_reducible rfl); rfl; (focus ((repeat (first | (with_reducible assumption) | (with_reducible apply OW.alloc) | (with_reducible apply OW.drew) | (with_reducible apply OW.drewN) | ((with_reducible apply OW.setCellR); (with_reducible assumption)) | ((with_reducible apply OW.belowR); (with_reducible assumption)) | ((with_reducible apply OW.keptR); (with_reducible assumption); (with_reducible assumption)))); done)); (show RD _ _ (.slice (some ⟨_, 0, none⟩) 1 1) _; (focus ((repeat (first | (with_reducible assumption) | exact RD.new1 _ rfl | (refine RD.new1e _ ?_ rfl; simp; done) | (with_reducible apply RD.alloc) | (with_reducible apply RD.drew) | (with_reducible apply RD.drewN) | ((with_reducible apply RD.belowR); (with_reducible assumption)))); done))); (have := hkp.size; simp; omega); intro v3 w3 ho3 hg3 hat3); have kv3 := KV.app hg3 (KV.alloc (KV.refl u3 wr)); obtain ⟨e0, e1, e2, e3, e4, e5⟩ := KS.out w3 kv3; clear c0 c1 c2 d0 d1 d2)
        have hat9 : v3.ownBlock = u3.ownBlock ∨ Hi wr.heap.size v3 := hat3.imp id (fun e => fun k hk => by rw [e] at hk; injection hk with hk; subst hk; simp <;> omega)
        have HX3 := hide (HX.out.app kv3 hat9)
        have HY3 := hide (HY.out.app kv3 hat9)
        have HR3 := hide (HR.out.app kv3 hat9)
        have HK3 : Hid (Kp w w3) := hide (by have K0 := hkp.alloc (o := .cells #[.int .i64 c] 3); exact Kp.app hg3 K0 hi)
        have lo3 := ho3.lo
        have KS3 : Hid (∀ W', Kp w3 W' → (W'.cell? ⟨b, 0, none⟩ = some (.int .i64 a) ∧ W'.cell? ⟨b, 1, none⟩ = some (.pointer (some ⟨b2, 0, none⟩)) ∧ W'.cell? ⟨b, 2, none⟩ = some (.pointer pr) ∧ W'.cell? ⟨b2, 0, none⟩ = some (.int .i64 c) ∧ W'.cell? ⟨b2, 1, none⟩ = some (.pointer px) ∧ W'.cell? ⟨b2, 2, none⟩ = some (.pointer py) ∧ Kp w3 W')) :=
          hide fun W' h => ⟨h.cell e0, h.cell e1, h.cell e2, h.cell e3, h.cell e4, h.cell e5, h⟩
        have K0 := Kp.refl w3
        have HT3 : Hid (TX v3 ((w3.alloc (.cells #[.int .i64 a, .pointer py, .pointer pr] 62)).alloc (.cells #[.int .i64 c, .pointer px, .pointer (some ⟨w3.heap.size, 0, none⟩)] 62)) (.node c x (.node a y r)) (some ⟨w3.heap.size + 1, 0, none⟩)) := hide (by
          have h1 := TX.mk HY3.out HR3.out 62 lo3 (k := a)
          have k1 : Kp w3 (w3.alloc (.cells #[.int .i64 a, .pointer py, .pointer pr] 62)) := (Kp.refl w3).alloc
          have h2 := TX.mk (HX3.out.kp k1) h1 62 (lo3.mono k1.size) (k := c)
          have e : (w3.alloc (.cells #[.int .i64 a, .pointer py, .pointer pr] 62)).heap.size = w3.heap.size + 1 := by simp
          rw [e] at h2
          exact h2)
        clear hg3 kv3 hat9 hat3
        go_region_held3 (fun w' => w'.cell? ⟨b, 0, none⟩ = some (.int .i64 a) ∧ w'.cell? ⟨b, 1, none⟩ = some (.pointer (some ⟨b2, 0, none⟩)) ∧ w'.cell? ⟨b, 2, none⟩ = some (.pointer pr) ∧ w'.cell? ⟨b2, 0, none⟩ = some (.int .i64 c) ∧ w'.cell? ⟨b2, 1, none⟩ = some (.pointer px) ∧ w'.cell? ⟨b2, 2, none⟩ = some (.pointer py) ∧ Kp w3 w')
          ((go_split_ands; refine KS3.out _ ?_; (focus ((repeat (first | (with_reducible assumption) | (with_reducible exact Kp.refl _) | (with_reducible apply Kp.drew) | (with_reducible apply Kp.drewN) | ((with_reducible apply Kp.setR); (focus (first | (with_reducible assumption) | (simp; done) | (simp; omega)))) | (with_reducible apply Kp.alloc) | ((with_reducible apply Kp.call); (with_reducible assumption)) | ((with_reducible apply Kp.app); (with_reducible assumption)))); done)))) (fail)
        all_goals
          go_wp2
          go_roundw
          case rel =>
            refine ⟨.node c x (.node a y r), _, ks ++ [c], rfl, ?_, ?_, by have h := HKS.out; rw [toldT_rot] at h; rw [← h]; simp, HK3.out.trans (by (focus ((repeat (first | (with_reducible assumption) | (with_reducible exact Kp.refl _) | (with_reducible apply Kp.drew) | (with_reducible apply Kp.drewN) | ((with_reducible apply Kp.setR); (focus (first | (with_reducible assumption) | (simp; done) | (simp; omega)))) | (with_reducible apply Kp.alloc) | ((with_reducible apply Kp.call); (with_reducible assumption)) | ((with_reducible apply Kp.app); (with_reducible assumption)))); done)))⟩
            · exact HT3.out.kp (by first | exact Kp.refl _ | exact (Kp.refl _).drew)
            · (focus ((repeat (first | (with_reducible assumption) | (with_reducible apply OW.alloc) | (with_reducible apply OW.drew) | (with_reducible apply OW.drewN) | ((with_reducible apply OW.setCellR); (with_reducible assumption)) | ((with_reducible apply OW.belowR); (with_reducible assumption)) | ((with_reducible apply OW.keptR); (with_reducible assumption); (with_reducible assumption)))); done))
          case measure =>
            refine Nat.lt_of_le_of_lt (Nat.le_of_eq (mesT_eq (TX.tm (HT3.out.kp (by first | exact Kp.refl _ | exact (Kp.refl _).drew))))) ?_
            rw [HMS.out, toldT_rot]
            simp only [MT.size, List.length_cons]
            omega
def RetTM (t : MT Int) (w : World) (e : Ending) (w' : World) : Prop := ∃ p, e = .returned (.pointer p) ∧ TM w' t p ∧ Below w.heap.size w w'
set_option maxRecDepth 100000 in
set_option maxHeartbeats 4000000 in
theorem pressed_any : ∀ (many : Nat) (t : MT Int) (p : Option Addr) (w : World), TM w t p → many ≤ 100000 → 2 * many ≤ rs t →
    Calls Try.prog 30 #[.pointer p, .int .i64 (many : Int)] w (RetTM (pressM many t) w)
  | 0, t, p, w, hm, _, _ => by
    have HM := hide hm
    clear hm
    simp only [Int.natCast_zero]
    go_enter Try.func30, Try.ntmps30
    go_wp2
    go_ret
    exact ⟨p, rfl, HM.out, Below.refl _ _⟩
  | many + 1, t, p, w, hm, hl, hr => by
    obtain ⟨a, l, c, x, y, rfl⟩ := rs_two (t := t) (by omega)
    obtain ⟨b, pl, pr, rfl, hb, c0, c1, c2, hml, hmr⟩ := hm.node
    obtain ⟨b2, px, py, rfl, hb2, d0, d1, d2, hx, hy⟩ := hmr.node
    simp only [rs] at hr
    have IH := hide (fun w h => pressed_any many y py w h (by omega) (by omega))
    have HML := hide hml
    have HX := hide hx
    have HY := hide hy
    have KS : Hid (∀ W', Kp w W' → (W'.cell? ⟨b, 0, none⟩ = some (.int .i64 a) ∧ W'.cell? ⟨b, 1, none⟩ = some (.pointer pl) ∧ W'.cell? ⟨b, 2, none⟩ = some (.pointer (some ⟨b2, 0, none⟩)) ∧ W'.cell? ⟨b2, 0, none⟩ = some (.int .i64 c) ∧ W'.cell? ⟨b2, 1, none⟩ = some (.pointer px) ∧ W'.cell? ⟨b2, 2, none⟩ = some (.pointer py) ∧ Kp w W')) :=
      hide fun W' h => ⟨h.cell c0, h.cell c1, h.cell c2, h.cell d0, h.cell d1, h.cell d2, h⟩
    have K0 := Kp.refl w
    have b0 : (((many + 1 : Nat) : Int) == 0) = false := by rw [beq_eq_false_iff_ne]; omega
    have hw : IntKind.i64.wrap (((many + 1 : Nat) : Int) - 1) = (many : Int) := by rw [IntWalk.i64_in _ (by omega)]; omega
    obtain ⟨M, hM⟩ : ∃ M : Int, M = ((many + 1 : Nat) : Int) := ⟨_, rfl⟩
    rw [← hM] at b0 hw ⊢
    have HLA : Hid (∀ W W' g, Kp (W.alloc (.cells #[.int .i64 a, .pointer pl, .pointer px] 62)) W' → Kp w W → W.heap.size = g → TM W' (.node a l x) (some ⟨g, 0, none⟩)) := hide fun W W' g h1 h2 h3 => by
      subst h3
      exact (TM.mk (HML.out.kp h2) (HX.out.kp h2) _).kp h1
    have HRA : Hid (∀ W p1 q g, TM W (.node a l x) q → TM W (pressM many y) p1 → W.heap.size = g → TM (W.alloc (.cells #[.int .i64 c, .pointer q, .pointer p1] 62)) (pressM (many + 1) (.node a l (.node c x y))) (some ⟨g, 0, none⟩)) := hide fun W p1 q g h1 h2 h3 => by
      subst h3
      exact TM.mk h1 h2 _
    clear hml hmr hx hy hm hM
    go_enter Try.func30, Try.ntmps30
    go_wp2_with fail
    go_region_held3 (fun w' => w'.cell? ⟨b, 0, none⟩ = some (.int .i64 a) ∧ w'.cell? ⟨b, 1, none⟩ = some (.pointer pl) ∧ w'.cell? ⟨b, 2, none⟩ = some (.pointer (some ⟨b2, 0, none⟩)) ∧ w'.cell? ⟨b2, 0, none⟩ = some (.int .i64 c) ∧ w'.cell? ⟨b2, 1, none⟩ = some (.pointer px) ∧ w'.cell? ⟨b2, 2, none⟩ = some (.pointer py) ∧ Kp w w')
      ((go_split_ands; refine KS.out _ ?_; (focus ((repeat (first | (with_reducible assumption) | (with_reducible exact Kp.refl _) | (with_reducible apply Kp.drew) | (with_reducible apply Kp.drewN) | ((with_reducible apply Kp.setR); (focus (first | (with_reducible assumption) | (simp; done) | (simp; omega)))) | (with_reducible apply Kp.alloc) | ((with_reducible apply Kp.call); (with_reducible assumption)) | ((with_reducible apply Kp.app); (with_reducible assumption)))); done))))
      ((go_at_call_of 30 (Value.pointer py); (with_reducible refine (IH.out _ (HY.out.kp ?_)).mono ?_); (go_split_ands; (focus ((repeat (first | (with_reducible assumption) | (with_reducible exact Kp.refl _) | (with_reducible apply Kp.drew) | (with_reducible apply Kp.drewN) | ((with_reducible apply Kp.setR); (focus (first | (with_reducible assumption) | (simp; done) | (simp; omega)))) | (with_reducible apply Kp.alloc) | ((with_reducible apply Kp.call); (with_reducible assumption)) | ((with_reducible apply Kp.app); (with_reducible assumption)))); done))); rintro e w1 ⟨p1, rfl, ht1, hb1⟩))
    all_goals
      go_wp2
      go_ret
      refine ⟨_, rfl, HRA.out _ _ _ _ (HLA.out _ _ _ (by first | exact Kp.refl _ | exact hb1 | exact ((Kp.refl _).drew).trans hb1) (by (focus ((repeat (first | (with_reducible assumption) | (with_reducible exact Kp.refl _) | (with_reducible apply Kp.drew) | (with_reducible apply Kp.drewN) | ((with_reducible apply Kp.setR); (focus (first | (with_reducible assumption) | (simp; done) | (simp; omega)))) | (with_reducible apply Kp.alloc) | ((with_reducible apply Kp.call); (with_reducible assumption)) | ((with_reducible apply Kp.app); (with_reducible assumption)))); done))) (by simp)) (ht1.kp (by (focus ((repeat (first | (with_reducible assumption) | (with_reducible exact Kp.refl _) | (with_reducible apply Kp.drew) | (with_reducible apply Kp.drewN) | ((with_reducible apply Kp.setR); (focus (first | (with_reducible assumption) | (simp; done) | (simp; omega)))) | (with_reducible apply Kp.alloc) | ((with_reducible apply Kp.call); (with_reducible assumption)) | ((with_reducible apply Kp.app); (with_reducible assumption)))); done)))) (by simp), Kp.bel (by (focus ((repeat (first | (with_reducible assumption) | (with_reducible exact Kp.refl _) | (with_reducible apply Kp.drew) | (with_reducible apply Kp.drewN) | ((with_reducible apply Kp.setR); (focus (first | (with_reducible assumption) | (simp; done) | (simp; omega)))) | (with_reducible apply Kp.alloc) | ((with_reducible apply Kp.call); (with_reducible assumption)) | ((with_reducible apply Kp.app); (with_reducible assumption)))); done)))⟩
def upL (T : MT Int) (n : Nat) : Nat := (toldT T).length + (n + 1 - 2 ^ lgE n) + upS (lgE n)
def EvPost (l : List IP) (w : World) (e : Ending) (w' : World) : Prop := ∃ p, e = .returned (.tuple #[.pointer p, .int .i64 (upL (toM (treeOf l 0).1) l.length : Int)]) ∧ TM w' (evenT (l.map Prod.fst)) p ∧ Below w.heap.size w w'
def Ev1Rel (l : List IP) (w : World) (vv iv : Value) (wr : World) : Prop := ∃ (k : Nat) (p : Option Addr), k ≤ l.length ∧ iv = .int .i64 ((k : Int) - 1) ∧ vv = .pointer p ∧ TM wr (vineM ((l.drop k).map Prod.fst)) p ∧ Kp w wr
def Ev2Rel (n : Nat) (w : World) (mv : Value) (wr : World) : Prop := ∃ j M : Nat, mv = .int .i64 (M : Int) ∧ M + 1 = 2 ^ j ∧ M ≤ n ∧ w = wr
def Ev3Rel (Tf : MT Int) (uf : Nat) (w : World) (uv vv mv : Value) (wr : World) : Prop := ∃ (j M u : Nat) (T : MT Int) (p : Option Addr), uv = .int .i64 (u : Int) ∧ vv = .pointer p ∧ mv = .int .i64 (M : Int) ∧ M + 1 = 2 ^ j ∧ M ≤ 1000 ∧ evenS j T = Tf ∧ M ≤ rs T ∧ u + upS j = uf ∧ TM wr T p ∧ Kp w wr
theorem evenS_low {i : Nat} (T : MT Int) (h : 2 ^ i ≤ 2) : evenS i T = T ∧ upS i = 0 := by
  match i, h with
  | 0, _ => exact ⟨rfl, rfl⟩
  | 1, _ => exact ⟨rfl, rfl⟩
  | k + 2, h =>
    have : 2 ^ (k + 2) = 4 * 2 ^ k := by rw [Nat.pow_succ, Nat.pow_succ]; omega
    have := Nat.pow_pos (n := k) (show 0 < 2 by omega)
    omega
end Go.Proofs.Ytnpogfodopodoaa
