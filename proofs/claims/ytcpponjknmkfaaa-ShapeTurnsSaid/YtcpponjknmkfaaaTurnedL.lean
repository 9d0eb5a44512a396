/-
  hedgref.Turned: what it answers; plain law: of right spots it is the tree that shape.Turn's list makes. Conditions: a tree that is read (TR).
-/
import Derived.Test.YtcpponjknmkfaaaTurnLaw
import Derived.Test.YtcpponjknmkfaaaSpotsR
import Derived.Deep.DeepCutAuto
namespace Go.Proofs.Ytcpponjknmkfaaa
open Go.ChangeShapes Go.WideShapes Go.ChangeAt Go.RowKit
set_option linter.unusedVariables false
set_option linter.unusedSimpArgs false

def topIs : T → Int → Bool
  | .nil, _ => false
  | .node k _ _, key => k == key
def rotTR (k : Int) (l r : T) : T := match l with
  | .node c x y => .node c x (.node k y r)
  | .nil => .node k .nil r
def rotTL (k : Int) (l r : T) : T := match r with
  | .node c x y => .node c (.node k l x) y
  | .nil => .node k l .nil
def turnTT : T → Int → T
  | .nil, _ => .nil
  | .node k l r, key => if topIs l key = true then rotTR k l r else if topIs r key = true then rotTL k l r else if key < k then .node k (turnTT l key) r else .node k l (turnTT r key)
theorem topIs_toT {l : List IP} (hk : ∀ i j, i < j → j < l.length → gk l i < gk l j) {t : PT} {off a : Nat} (hat : t.At off) (hs : off + t.size ≤ l.length) (ha : a < l.length) : topIs (toT l t) (gk l a) = true ↔ ∃ x y, t = .node a x y := by
  cases t with
  | nil => simp [toT, topIs]
  | node p x y =>
    have hp := hat.1
    simp only [PT.size] at hs
    simp only [toT, topIs, beq_iff_eq, PT.node.injEq]
    constructor
    · intro e
      refine ⟨x, y, ?_, rfl, rfl⟩
      rcases Nat.lt_trichotomy p a with h | h | h
      · have := hk p a h ha; omega
      · exact h
      · have := hk a p h (by omega); omega
    · rintro ⟨_, _, rfl, _⟩; rfl
theorem toT_rot {l : List IP} (hk : ∀ i j, i < j → j < l.length → gk l i < gk l j) : ∀ (t : PT) (off a : Nat), t.At off → off + t.size ≤ l.length → off ≤ a → a < off + t.size → t.anc a ≠ [] → toT l (t.rot a) = turnTT (toT l t) (gk l a)
  | .nil, off, a, _, _, h1, h2, _ => by simp [PT.size] at h2; omega
  | .node p x y, off, a, hat, hs, h1, h2, h3 => by
    obtain ⟨e1, e2, e3⟩ := hat
    simp only [PT.size] at hs h2
    have hal : a < l.length := by omega
    rw [PT.anc] at h3
    have tl := topIs_toT hk e2 (a := a) (by omega) hal
    have tr := topIs_toT hk e3 (a := a) (by omega) hal
    rw [toT, turnTT]
    by_cases hap : a < p
    · have hlt := hk a p hap (by omega)
      have hr : ¬ topIs (toT l y) (gk l a) = true := fun e => by
        obtain ⟨u, v, e9⟩ := tr.1 e
        subst e9
        have := e3.1; omega
      by_cases hx : x.anc a = []
      · obtain ⟨u, v, rfl⟩ := PT.anc_nil x off a e2 h1 (by omega) hx
        rw [if_pos (tl.2 ⟨u, v, rfl⟩), PT.rot_l1 p a u v y hap]
        rfl
      · have hl' : ¬ topIs (toT l x) (gk l a) = true := fun e => by
          obtain ⟨u, v, rfl⟩ := tl.1 e
          simp [PT.anc] at hx
        rw [if_neg hl', if_neg hr, if_pos hlt, PT.rot_l p a x y hap hx, toT, toT_rot hk x off a e2 (by omega) h1 (by omega) hx]
    · rw [if_neg hap] at h3
      have hne : a ≠ p := fun e => by rw [if_pos e] at h3; exact h3 rfl
      have hlt := hk p a (by omega) hal
      have hl' : ¬ topIs (toT l x) (gk l a) = true := fun e => by
        obtain ⟨u, v, e9⟩ := tl.1 e
        subst e9
        have := e2.1; simp only [PT.size] at *; omega
      by_cases hy : y.anc a = []
      · obtain ⟨u, v, rfl⟩ := PT.anc_nil y (p + 1) a e3 (by omega) (by omega) hy
        rw [if_neg hl', if_pos (tr.2 ⟨u, v, rfl⟩), PT.rot_r1 p a x u v hap]
        rfl
      · have hr : ¬ topIs (toT l y) (gk l a) = true := fun e => by
          obtain ⟨u, v, rfl⟩ := tr.1 e
          simp [PT.anc] at hy
        rw [if_neg hl', if_neg hr, if_neg (by omega), PT.rot_r p a x y hap hy, toT, toT_rot hk y (p + 1) a e3 (by omega) (by omega) (by omega) hy]
theorem toT_keys {l m : List IP} (h : ∀ k, gk m k = gk l k) : ∀ t, toT m t = toT l t
  | .nil => rfl
  | .node p a b => by rw [toT, toT, h, toT_keys h a, toT_keys h b]
theorem gk_keys {l m : List IP} (h : m.map Prod.fst = l.map Prod.fst) (k : Nat) : gk m k = gk l k := by
  have e := congrArg (fun x : List Int => x[k]?) h
  simp only [List.getElem?_map] at e
  unfold gk
  rw [List.getD_eq_getElem?_getD, List.getD_eq_getElem?_getD]
  cases h1 : m[k]? <;> cases h2 : l[k]? <;> simp [h1, h2] at e ⊢
  exact e
theorem Tr.whole {l : List IP} {t : PT} (h : Tr l t) : (treeOf l 0).1 = toT l t ∧ (toT l t).spots 0 = l := by
  obtain ⟨h1, h2⟩ := h.par
  have h3 := (treeOf_whole l).2 t h1
  have hp : (parOf l).2 = 0 := by rw [h2]
  have h4 := (treeOf_spots l hp).1
  exact ⟨h3, by rw [← h3]; exact h4⟩
theorem rising {l : List IP} (h : mapRight l = 0) : ∀ i j, i < j → j < l.length → gk l i < gk l j := fun i j hij hj => by
  rw [gk_eq l i (by omega), gk_eq l j hj]
  exact mapRight_rise l h i j (by omega) hj hij
/-- A key that stands below another one, turned: the list that Turn answers is that of the tree that is turned. -/
theorem turned_spots {l : List IP} {t : PT} (h : Tr l t) {a p : Nat} (ha : a < l.length) (hp : (t.anc a).head? = some p) : (turnTT (treeOf l 0).1 l[a].1).spots 0 = turnL l (t.pars (-1)) a p := by
  obtain ⟨h1, _⟩ := h.turn ha hp
  have h2 := h1.whole.2
  have h3 : toT (turnL l (t.pars (-1)) a p) (t.rot a) = toT l (t.rot a) := toT_keys (gk_keys (turnL_keys l _ a p)) _
  rw [h3, toT_rot (rising h.right) t 0 a h.at0 (by rw [h.size]; omega) (by omega) (by rw [h.size]; omega) (fun e => by rw [e] at hp; cases hp), gk_eq l a ha] at h2
  rw [h.whole.1, h2]
theorem turnTT_size : ∀ (t : T) (key : Int), (turnTT t key).size = t.size
  | .nil, _ => rfl
  | .node k l r, key => by
    rw [turnTT]
    split
    · cases l with
      | nil => rfl
      | node c x y => simp only [rotTR, T.size]; omega
    · split
      · cases r with
        | nil => rfl
        | node c x y => simp only [rotTL, T.size]; omega
      · split
        · simp only [T.size, turnTT_size l]
        · simp only [T.size, turnTT_size r]
set_option maxRecDepth 100000 in
set_option maxHeartbeats 4000000 in
theorem turned_any : ∀ (t : T) (v : Option Addr) (key : Int) (w : World), TR w t v → Calls Try.prog 33 #[.pointer v, .int .i64 key] w (RetTR (turnTT t key) w)
  | .nil, v, key, w, h => by
    have h' : v = none := h
    subst h'
    go_enter Try.func33, Try.ntmps33
    go_wp2
    go_ret
    exact ⟨none, rfl, rfl, Below.refl _ _⟩
  | .node k l r, v, key, w, h => by
    obtain ⟨b, pl, pr, rfl, hb, c0, c1, c2, hl, hr⟩ := h
    have IHL := hide (fun W (hk : Kp w W) => turned_any l pl key W (hl.kp hk))
    have IHR := hide (fun W (hk : Kp w W) => turned_any r pr key W (hr.kp hk))
    have HL := hide hl
    have HR := hide hr
    have hT : turnTT (.node k l r) key = if topIs l key = true then rotTR k l r else if topIs r key = true then rotTL k l r else if key < k then .node k (turnTT l key) r else .node k l (turnTT r key) := by rw [turnTT]
    obtain ⟨RT, hRT⟩ : ∃ RT, RT = turnTT (.node k l r) key := ⟨_, rfl⟩
    rw [← hRT] at hT ⊢
    have HT := hide hT
    obtain ⟨tl, htl⟩ : ∃ x, x = topIs l key := ⟨_, rfl⟩
    obtain ⟨tr, htr⟩ : ∃ x, x = topIs r key := ⟨_, rfl⟩
    rw [← htl, ← htr] at HT
    have HTL := hide htl
    have HTR := hide htr
    clear hl hr hT hRT htl htr
    go_enter Try.func33, Try.ntmps33
    go_upto_region 3 with fail
    go_cut [10] from 11 to 26 (fun s wx => s = .bool tl ∧ wx = w)
    case first =>
      cases l with
      | nil =>
        have e1 : pl = none := HL.out
        subst e1
        go_wp2_with fail
        go_meet
        exact ⟨by rw [HTL.out]; rfl, rfl⟩
      | node kl xl yl =>
        obtain ⟨bl, pll, plr, e1, _, f0, f1, f2, _, _⟩ := HL.out
        subst e1
        by_cases hkl : kl = key
        · have e1 : (kl == key) = true := by simp [hkl]
          go_wp2_with fail
          go_meet
          exact ⟨by rw [HTL.out, topIs, e1], rfl⟩
        · have e1 : (kl == key) = false := by simp [hkl]
          go_wp2_with fail
          go_meet
          exact ⟨by rw [HTL.out, topIs, e1], rfl⟩
    case rest =>
      obtain ⟨rfl, rfl⟩ := hcut
      obtain ⟨w, rfl⟩ : ∃ x, x = wc := ⟨_, rfl⟩
      cases tl with
      | true =>
        have hT := HT.out
        rw [if_pos rfl] at hT
        cases l with
        | nil => exact absurd HTL.out (by simp [topIs])
        | node kl xl yl =>
          obtain ⟨bl, pll, plr, e1, _, f0, f1, f2, hll, hlr⟩ := HL.out
          subst e1
          have HT9 : Hid (RT = .node kl xl (.node k yl r)) := hide hT
          have HLL := hide hll
          have HLR := hide hlr
          have KS : Hid (∀ W', Kp w W' → ((W'.cell? ⟨b, 0, none⟩ = some (.int .i64 k) ∧ W'.cell? ⟨b, 1, none⟩ = some (.pointer (some ⟨bl, 0, none⟩)) ∧ W'.cell? ⟨b, 2, none⟩ = some (.pointer pr)) ∧ (W'.cell? ⟨bl, 0, none⟩ = some (.int .i64 kl) ∧ W'.cell? ⟨bl, 1, none⟩ = some (.pointer pll) ∧ W'.cell? ⟨bl, 2, none⟩ = some (.pointer plr)) ∧ Kp w W')) :=
            hide fun W' h => ⟨⟨h.cell c0, h.cell c1, h.cell c2⟩, ⟨h.cell f0, h.cell f1, h.cell f2⟩, h⟩
          have K0 := Kp.refl w
          clear hll hlr hT HT
          go_wp2_with fail
          go_region_held3 (fun W' => (W'.cell? ⟨b, 0, none⟩ = some (.int .i64 k) ∧ W'.cell? ⟨b, 1, none⟩ = some (.pointer (some ⟨bl, 0, none⟩)) ∧ W'.cell? ⟨b, 2, none⟩ = some (.pointer pr)) ∧ (W'.cell? ⟨bl, 0, none⟩ = some (.int .i64 kl) ∧ W'.cell? ⟨bl, 1, none⟩ = some (.pointer pll) ∧ W'.cell? ⟨bl, 2, none⟩ = some (.pointer plr)) ∧ Kp w W')
            ((refine KS.out _ ?_; (focus ((repeat (first | (with_reducible assumption) | (with_reducible exact Kp.refl _) | (with_reducible apply Kp.drew) | (with_reducible apply Kp.drewN) | ((with_reducible apply Kp.setR); (focus (first | (with_reducible assumption) | (simp; done) | (simp; omega)))) | (with_reducible apply Kp.alloc) | ((with_reducible apply Kp.call); (with_reducible assumption)) | ((with_reducible apply Kp.app); (with_reducible assumption)))); done))))
            (fail)
          go_wp2
          go_ret
          refine ⟨some ⟨w.heap.size + 1, 0, none⟩, rfl, ?_, Kp.bel (by go_split_ands; (focus ((repeat (first | (with_reducible assumption) | (with_reducible exact Kp.refl _) | (with_reducible apply Kp.drew) | (with_reducible apply Kp.drewN) | ((with_reducible apply Kp.setR); (focus (first | (with_reducible assumption) | (simp; done) | (simp; omega)))) | (with_reducible apply Kp.alloc) | ((with_reducible apply Kp.call); (with_reducible assumption)) | ((with_reducible apply Kp.app); (with_reducible assumption)))); done)))⟩
          rw [HT9.out]
          have h2 := TR.mk (HLL.out.kp ((Kp.refl w).alloc (o := .cells #[.int .i64 k, .pointer plr, .pointer pr] 67))) (TR.mk HLR.out HR.out 67) (k := kl) 67
          have e9 : (w.alloc (.cells #[.int .i64 k, .pointer plr, .pointer pr] 67)).heap.size = w.heap.size + 1 := by simp
          rw [e9] at h2
          exact h2.kp (Kp.refl _).drew
      | false =>
        have hT := HT.out
        rw [if_neg (by decide)] at hT
        have HT2 := hide hT
        clear hT HT
        go_upto_region 6 with fail
        go_cut [55] from 56 to 71 (fun s wx => s = .bool tr ∧ wx = w)
        case first =>
          cases r with
          | nil =>
            have e1 : pr = none := HR.out
            subst e1
            go_wp2_with fail
            go_meet
            exact ⟨by rw [HTR.out]; rfl, rfl⟩
          | node kr xr yr =>
            obtain ⟨br, prl, prr, e1, _, f0, f1, f2, _, _⟩ := HR.out
            subst e1
            by_cases hkr : kr = key
            · have e1 : (kr == key) = true := by simp [hkr]
              go_wp2_with fail
              go_meet
              exact ⟨by rw [HTR.out, topIs, e1], rfl⟩
            · have e1 : (kr == key) = false := by simp [hkr]
              go_wp2_with fail
              go_meet
              exact ⟨by rw [HTR.out, topIs, e1], rfl⟩
        case rest =>
          obtain ⟨rfl, rfl⟩ := hcut
          obtain ⟨w, rfl⟩ : ∃ x, x = wc := ⟨_, rfl⟩
          cases tr with
          | true =>
            have hT := HT2.out
            rw [if_pos rfl] at hT
            cases r with
            | nil => exact absurd HTR.out (by simp [topIs])
            | node kr xr yr =>
              obtain ⟨br, prl, prr, e1, _, f0, f1, f2, hrl, hrr⟩ := HR.out
              subst e1
              have HT9 : Hid (RT = .node kr (.node k l xr) yr) := hide hT
              have HRL := hide hrl
              have HRR := hide hrr
              have KS : Hid (∀ W', Kp w W' → ((W'.cell? ⟨b, 0, none⟩ = some (.int .i64 k) ∧ W'.cell? ⟨b, 1, none⟩ = some (.pointer pl) ∧ W'.cell? ⟨b, 2, none⟩ = some (.pointer (some ⟨br, 0, none⟩))) ∧ (W'.cell? ⟨br, 0, none⟩ = some (.int .i64 kr) ∧ W'.cell? ⟨br, 1, none⟩ = some (.pointer prl) ∧ W'.cell? ⟨br, 2, none⟩ = some (.pointer prr)) ∧ Kp w W')) :=
                hide fun W' h => ⟨⟨h.cell c0, h.cell c1, h.cell c2⟩, ⟨h.cell f0, h.cell f1, h.cell f2⟩, h⟩
              have K0 := Kp.refl w
              clear hrl hrr hT HT2
              go_wp2_with fail
              go_region_held3 (fun W' => (W'.cell? ⟨b, 0, none⟩ = some (.int .i64 k) ∧ W'.cell? ⟨b, 1, none⟩ = some (.pointer pl) ∧ W'.cell? ⟨b, 2, none⟩ = some (.pointer (some ⟨br, 0, none⟩))) ∧ (W'.cell? ⟨br, 0, none⟩ = some (.int .i64 kr) ∧ W'.cell? ⟨br, 1, none⟩ = some (.pointer prl) ∧ W'.cell? ⟨br, 2, none⟩ = some (.pointer prr)) ∧ Kp w W')
                ((refine KS.out _ ?_; (focus ((repeat (first | (with_reducible assumption) | (with_reducible exact Kp.refl _) | (with_reducible apply Kp.drew) | (with_reducible apply Kp.drewN) | ((with_reducible apply Kp.setR); (focus (first | (with_reducible assumption) | (simp; done) | (simp; omega)))) | (with_reducible apply Kp.alloc) | ((with_reducible apply Kp.call); (with_reducible assumption)) | ((with_reducible apply Kp.app); (with_reducible assumption)))); done))))
                (fail)
              all_goals
                go_wp2
                go_ret
                refine ⟨some ⟨w.heap.size + 1, 0, none⟩, rfl, ?_, Kp.bel (by go_split_ands; (focus ((repeat (first | (with_reducible assumption) | (with_reducible exact Kp.refl _) | (with_reducible apply Kp.drew) | (with_reducible apply Kp.drewN) | ((with_reducible apply Kp.setR); (focus (first | (with_reducible assumption) | (simp; done) | (simp; omega)))) | (with_reducible apply Kp.alloc) | ((with_reducible apply Kp.call); (with_reducible assumption)) | ((with_reducible apply Kp.app); (with_reducible assumption)))); done)))⟩
                rw [HT9.out]
                have h2 := TR.mk (TR.mk HL.out HRL.out 67) (HRR.out.kp ((Kp.refl w).alloc (o := .cells #[.int .i64 k, .pointer pl, .pointer prl] 67))) (k := kr) 67
                have e9 : (w.alloc (.cells #[.int .i64 k, .pointer pl, .pointer prl] 67)).heap.size = w.heap.size + 1 := by simp
                rw [e9] at h2
                exact h2.kp (by (focus ((repeat (first | (with_reducible assumption) | (with_reducible exact Kp.refl _) | (with_reducible apply Kp.drew) | (with_reducible apply Kp.drewN) | ((with_reducible apply Kp.setR); (focus (first | (with_reducible assumption) | (simp; done) | (simp; omega)))) | (with_reducible apply Kp.alloc) | ((with_reducible apply Kp.call); (with_reducible assumption)) | ((with_reducible apply Kp.app); (with_reducible assumption)))); done)))
          | false =>
            have hT := HT2.out
            rw [if_neg (by decide)] at hT
            have KS : Hid (∀ W', Kp w W' → ((W'.cell? ⟨b, 0, none⟩ = some (.int .i64 k) ∧ W'.cell? ⟨b, 1, none⟩ = some (.pointer pl) ∧ W'.cell? ⟨b, 2, none⟩ = some (.pointer pr)) ∧ Kp w W')) := hide fun W' h => ⟨⟨h.cell c0, h.cell c1, h.cell c2⟩, h⟩
            have K0 := Kp.refl w
            by_cases hlt : key < k
            · have d1 : decide (key < k) = true := decide_eq_true hlt
              rw [if_pos hlt] at hT
              have HT9 := hide hT
              clear hT HT2 hlt
              go_wp2_with fail
              go_region_held3 (fun W' => (W'.cell? ⟨b, 0, none⟩ = some (.int .i64 k) ∧ W'.cell? ⟨b, 1, none⟩ = some (.pointer pl) ∧ W'.cell? ⟨b, 2, none⟩ = some (.pointer pr)) ∧ Kp w W')
                ((refine KS.out _ ?_; (focus ((repeat (first | (with_reducible assumption) | (with_reducible exact Kp.refl _) | (with_reducible apply Kp.drew) | (with_reducible apply Kp.drewN) | ((with_reducible apply Kp.setR); (focus (first | (with_reducible assumption) | (simp; done) | (simp; omega)))) | (with_reducible apply Kp.alloc) | ((with_reducible apply Kp.call); (with_reducible assumption)) | ((with_reducible apply Kp.app); (with_reducible assumption)))); done))))
                ((go_at_call 33; (with_reducible refine (IHL.out _ ?_).mono ?_); (go_split_ands; (focus ((repeat (first | (with_reducible assumption) | (with_reducible exact Kp.refl _) | (with_reducible apply Kp.drew) | (with_reducible apply Kp.drewN) | ((with_reducible apply Kp.setR); (focus (first | (with_reducible assumption) | (simp; done) | (simp; omega)))) | (with_reducible apply Kp.alloc) | ((with_reducible apply Kp.call); (with_reducible assumption)) | ((with_reducible apply Kp.app); (with_reducible assumption)))); done))); rintro e w1 ⟨p1, rfl, ht1, hb1⟩))
              all_goals
                go_wp2
                go_ret
                refine ⟨_, rfl, ?_, Kp.bel (by go_split_ands; (focus ((repeat (first | (with_reducible assumption) | (with_reducible exact Kp.refl _) | (with_reducible apply Kp.drew) | (with_reducible apply Kp.drewN) | ((with_reducible apply Kp.setR); (focus (first | (with_reducible assumption) | (simp; done) | (simp; omega)))) | (with_reducible apply Kp.alloc) | ((with_reducible apply Kp.call); (with_reducible assumption)) | ((with_reducible apply Kp.app); (with_reducible assumption)))); done)))⟩
                rw [HT9.out]
                first
                  | exact (TR.mk ht1 ((HR.out.kp (by go_split_ands; (focus ((repeat (first | (with_reducible assumption) | (with_reducible exact Kp.refl _) | (with_reducible apply Kp.drew) | (with_reducible apply Kp.drewN) | ((with_reducible apply Kp.setR); (focus (first | (with_reducible assumption) | (simp; done) | (simp; omega)))) | (with_reducible apply Kp.alloc) | ((with_reducible apply Kp.call); (with_reducible assumption)) | ((with_reducible apply Kp.app); (with_reducible assumption)))); done))))) _).kp (by (focus ((repeat (first | (with_reducible assumption) | (with_reducible exact Kp.refl _) | (with_reducible apply Kp.drew) | (with_reducible apply Kp.drewN) | ((with_reducible apply Kp.setR); (focus (first | (with_reducible assumption) | (simp; done) | (simp; omega)))) | (with_reducible apply Kp.alloc) | ((with_reducible apply Kp.call); (with_reducible assumption)) | ((with_reducible apply Kp.app); (with_reducible assumption)))); done)))
                  | exact TR.mk ht1 ((HR.out.kp (by go_split_ands; (focus ((repeat (first | (with_reducible assumption) | (with_reducible exact Kp.refl _) | (with_reducible apply Kp.drew) | (with_reducible apply Kp.drewN) | ((with_reducible apply Kp.setR); (focus (first | (with_reducible assumption) | (simp; done) | (simp; omega)))) | (with_reducible apply Kp.alloc) | ((with_reducible apply Kp.call); (with_reducible assumption)) | ((with_reducible apply Kp.app); (with_reducible assumption)))); done))))) _
            · have d1 : decide (key < k) = false := decide_eq_false hlt
              rw [if_neg hlt] at hT
              have HT9 := hide hT
              clear hT HT2 hlt
              go_wp2_with fail
              go_region_held3 (fun W' => (W'.cell? ⟨b, 0, none⟩ = some (.int .i64 k) ∧ W'.cell? ⟨b, 1, none⟩ = some (.pointer pl) ∧ W'.cell? ⟨b, 2, none⟩ = some (.pointer pr)) ∧ Kp w W')
                ((refine KS.out _ ?_; (focus ((repeat (first | (with_reducible assumption) | (with_reducible exact Kp.refl _) | (with_reducible apply Kp.drew) | (with_reducible apply Kp.drewN) | ((with_reducible apply Kp.setR); (focus (first | (with_reducible assumption) | (simp; done) | (simp; omega)))) | (with_reducible apply Kp.alloc) | ((with_reducible apply Kp.call); (with_reducible assumption)) | ((with_reducible apply Kp.app); (with_reducible assumption)))); done))))
                ((go_at_call 33; (with_reducible refine (IHR.out _ ?_).mono ?_); (go_split_ands; (focus ((repeat (first | (with_reducible assumption) | (with_reducible exact Kp.refl _) | (with_reducible apply Kp.drew) | (with_reducible apply Kp.drewN) | ((with_reducible apply Kp.setR); (focus (first | (with_reducible assumption) | (simp; done) | (simp; omega)))) | (with_reducible apply Kp.alloc) | ((with_reducible apply Kp.call); (with_reducible assumption)) | ((with_reducible apply Kp.app); (with_reducible assumption)))); done))); rintro e w1 ⟨p1, rfl, ht1, hb1⟩))
              all_goals
                go_wp2
                go_ret
                refine ⟨_, rfl, ?_, Kp.bel (by go_split_ands; (focus ((repeat (first | (with_reducible assumption) | (with_reducible exact Kp.refl _) | (with_reducible apply Kp.drew) | (with_reducible apply Kp.drewN) | ((with_reducible apply Kp.setR); (focus (first | (with_reducible assumption) | (simp; done) | (simp; omega)))) | (with_reducible apply Kp.alloc) | ((with_reducible apply Kp.call); (with_reducible assumption)) | ((with_reducible apply Kp.app); (with_reducible assumption)))); done)))⟩
                rw [HT9.out]
                exact TR.mk (HL.out.kp (by (focus ((repeat (first | (with_reducible assumption) | (with_reducible exact Kp.refl _) | (with_reducible apply Kp.drew) | (with_reducible apply Kp.drewN) | ((with_reducible apply Kp.setR); (focus (first | (with_reducible assumption) | (simp; done) | (simp; omega)))) | (with_reducible apply Kp.alloc) | ((with_reducible apply Kp.call); (with_reducible assumption)) | ((with_reducible apply Kp.app); (with_reducible assumption)))); done)))) ht1 _
end Go.Proofs.Ytcpponjknmkfaaa
