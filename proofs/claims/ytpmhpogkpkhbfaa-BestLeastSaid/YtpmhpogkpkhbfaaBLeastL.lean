/-
  Plain laws: no tree asks less than the least (KNUTH), and the one that is told asks just that. No program. Conditions: how often each is asked is from 0 to 1000.
-/
import Derived.Test.YtpmhpogkpkhbfaaAllUse
import Derived.Test.YtpmhpogkpkhbfaaAsked
import Derived.Test.YtpmhpogkpkhbfaaBTree
import Derived.Test.YtpmhpogkpkhbfaaSpotsR
namespace Go.Proofs.Ytpmhpogkpkhbfaa
set_option linter.unusedVariables false
set_option linter.unusedSimpArgs false

theorem Rg.ord : ∀ {t : T} {a b : Nat}, Rg t a b → a ≤ b := fun h => by have := h.le; omega
/-- Deeper by so many: each is asked so many times more. -/
theorem askF_deep {h g : Nat → Int} : ∀ (t : T) (a b : Nat) (d : Int), Rg t a b → askF h g t a d = askF h g t a 0 + d * wgt h g a b
  | .nil, a, b, d, hr => by
    have : a = b := hr
    subst this
    rw [askF, askF, wgt_self, Int.mul_zero, Int.zero_add, Int.mul_comm]
  | .node k l r, a, b, d, ⟨m, hk, hl, hrr⟩ => by
    subst hk
    have e1 := askF_deep (h := h) (g := g) l a m (d + 1) hl
    have e2 := askF_deep (h := h) (g := g) r (m + 1) b (d + 1) hrr
    have e3 := askF_deep (h := h) (g := g) l a m 1 hl
    have e4 := askF_deep (h := h) (g := g) r (m + 1) b 1 hrr
    have ew : wgt h g a b = wgt h g a m + h m + wgt h g (m + 1) b := by simp only [wgt, pfx]; omega
    rw [askF, askF, Int.toNat_natCast, e1, e2, Int.zero_add, e3, e4, ew]
    simp only [Int.mul_add, Int.add_mul, Int.one_mul, Int.mul_one, Int.mul_comm d]
    omega
theorem askF_node {h g : Nat → Int} {l r : T} {a b m : Nat} (hl : Rg l a m) (hr : Rg r (m + 1) b) : askF h g (.node (m : Int) l r) a 0 = wgt h g a b + askF h g l a 0 + askF h g r (m + 1) 0 := by
  have e3 := askF_deep (h := h) (g := g) l a m 1 hl
  have e4 := askF_deep (h := h) (g := g) r (m + 1) b 1 hr
  have ew : wgt h g a b = wgt h g a m + h m + wgt h g (m + 1) b := by simp only [wgt, pfx]; omega
  rw [askF, Int.toNat_natCast, Int.zero_add, e3, e4, ew]
  omega
/-- No tree asks less. -/
theorem ask_least {h g : Nat → Int} (hh : ∀ k, 0 ≤ h k) (hg : ∀ k, 0 ≤ g k) : ∀ (t : T) (a b : Nat), Rg t a b → bc h g a b ≤ askF h g t a 0
  | .nil, a, b, hr => by
    have : a = b := hr
    subst this
    rw [bc_self, askF, Int.mul_zero]
    exact Int.le_refl _
  | .node k l r, a, b, ⟨m, hk, hl, hrr⟩ => by
    subst hk
    have o1 := hl.ord
    have o2 := hrr.ord
    rw [askF_node hl hrr]
    obtain ⟨_, _, _, _, _, hle, _⟩ := bt_spec hh hg (show a < b by omega)
    have := hle m o1 (by omega)
    have := ask_least hh hg l a m hl
    have := ask_least hh hg r (m + 1) b hrr
    omega
def btN (T : Nat → Nat → Int) : Nat → Nat → Nat → Go.Proofs.Ytpmhpogkpkhbfaa.T
  | 0, _, _ => .nil
  | m + 1, i, j => if i < j then .node (T i j) (btN T m i (T i j).toNat) (btN T m ((T i j).toNat + 1) j) else .nil
theorem btN_spots {T : Nat → Nat → Int} {n : Nat} (hT : TopsIn T n) : ∀ (m i j : Nat) (d : Int), j ≤ n → (btN T m i j).spots d = spB T m i j d
  | 0, i, j, d, _ => rfl
  | m + 1, i, j, d, hj => by
    rw [btN, spB]
    split
    · rename_i hlt
      obtain ⟨r, h1, h2, h3⟩ := hT i j hlt hj
      rw [h3, Int.toNat_natCast, T.spots, btN_spots hT m i r _ (by omega), btN_spots hT m (r + 1) j _ hj]
    · rfl
theorem btN_rg {T : Nat → Nat → Int} {n : Nat} (hT : TopsIn T n) : ∀ (m i j : Nat), j - i ≤ m → i ≤ j → j ≤ n → Rg (btN T m i j) i j
  | 0, i, j, h1, h2, h3 => show i = j by omega
  | m + 1, i, j, h1, h2, h3 => by
    rw [btN]
    split
    · rename_i hlt
      obtain ⟨r, a1, a2, a3⟩ := hT i j hlt h3
      rw [a3, Int.toNat_natCast]
      exact ⟨r, rfl, btN_rg hT m i r (by omega) a1 (by omega), btN_rg hT m (r + 1) j (by omega) (by omega) h3⟩
    · show i = j; omega
theorem btN_ask {h g : Nat → Int} (hh : ∀ k, 0 ≤ h k) (hg : ∀ k, 0 ≤ g k) {n : Nat} (hT : TopsIn (bt h g) n) : ∀ (m i j : Nat), j - i ≤ m → i ≤ j → j ≤ n → askF h g (btN (bt h g) m i j) i 0 = bc h g i j
  | 0, i, j, h1, h2, h3 => by
    obtain rfl : i = j := by omega
    rw [btN, askF, bc_self, Int.mul_zero]
  | m + 1, i, j, h1, h2, h3 => by
    rw [btN]
    split
    · rename_i hlt
      obtain ⟨r, a1, a2, a3, a4, _⟩ := bt_spec hh hg hlt
      rw [a3, Int.toNat_natCast, askF_node (btN_rg hT m i r (by omega) a1 (by omega)) (btN_rg hT m (r + 1) j (by omega) (by omega) h3), btN_ask hh hg hT m i r (by omega) a1 (by omega), btN_ask hh hg hT m (r + 1) j (by omega) (by omega) h3, a4]
    · obtain rfl : i = j := by omega
      rw [askF, bc_self, Int.mul_zero]
def tmT : T → MT Int
  | .nil => .nil
  | .node k l r => .node k (tmT l) (tmT r)
theorem tmT_spots : ∀ (t : T) (d : Int), (tmT t).spotsBy id d = t.spots d
  | .nil, _ => rfl
  | .node k l r, d => by rw [tmT, MT.spotsBy, T.spots, tmT_spots l, tmT_spots r]; rfl
theorem tmT_keys : ∀ {t : T} {a b : Nat}, Rg t a b → keysM id (tmT t) = (List.range' a (b - a)).map (fun j : Nat => (j : Int))
  | .nil, a, b, h => by
    have : a = b := h
    subst this
    simp [tmT, keysM]
  | .node k l r, a, b, ⟨m, hk, h1, h2⟩ => by
    have o1 := h1.ord
    have o2 := h2.ord
    rw [tmT, keysM, tmT_keys h1, tmT_keys h2]
    have e : b - a = (m - a) + (1 + (b - (m + 1))) := by omega
    rw [e, ← List.range'_append_1, List.map_append, show a + (m - a) = m by omega, ← List.range'_append_1, List.map_append, List.append_assoc, hk]
    rfl
/-- What Cost answers of right spots with the keys from 0 on: what their tree asks. -/
theorem coB_right {l : List IP} {hits gaps : List Int} (h0 : brR hits gaps = 0) (hp : (parOf l).2 = 0) (hl : l.length = hits.length) (hk : ∀ k, k < l.length → gk l k = (k : Int)) :
    coB l hits gaps = (askF (gD hits) (gD gaps) (treeOf l 0).1 0 0, 0) ∧ Rg (treeOf l 0).1 0 hits.length := by
  obtain ⟨_, b2, _, _⟩ := brR_ok h0
  have hs := (treeOf_spots l hp).1
  have hgv : ∀ k, k < l.length → 0 ≤ gv l k := fun k hk => by rw [gv_eq l k hk]; exact (gv_bound l hp k hk).1
  have hd : Dp (gv l) (treeOf l 0).1 0 (0 + (treeOf l 0).1.size) 0 := Dp.of _ 0 0 (fun j hj => by
    have hjl : j < l.length := by rw [← hs]; exact hj
    have e : ((treeOf l 0).1.spots 0)[j] = l[j] := by simp only [hs]
    rw [e]
    have h1 := hk j hjl
    refine ⟨?_, ?_⟩
    · rw [gk_eq l j hjl] at h1
      rw [h1]; simp
    · rw [Nat.zero_add, gv_eq l j hjl])
  have hsz : (treeOf l 0).1.size = l.length := by rw [← T.spots_len _ 0, hs]
  rw [Nat.zero_add, hsz, hl] at hd
  refine ⟨?_, hd.rg⟩
  rw [coB, if_neg (fun e => e h0), if_neg (fun e => e hp), if_neg (fun e => e hl), if_pos (keysUp_iff.2 hk), ask_cost hs hk hgv, b2, hl]
theorem best_cost {hits gaps : List Int} (h0 : brR hits gaps = 0) : coB (trB hits gaps).1 hits gaps = ((trB hits gaps).2.1, 0) := by
  obtain ⟨b1, b2, b3, b4⟩ := brR_ok h0
  have hT := bt_tops b3 b4 hits.length
  have e : trB hits gaps = (spB (bt (gD hits) (gD gaps)) hits.length 0 hits.length 0, bc (gD hits) (gD gaps) 0 hits.length, 0) := by rw [trB, if_pos h0]
  have hs := btN_spots hT hits.length 0 hits.length 0 (Nat.le_refl _)
  have hrg := btN_rg hT hits.length 0 hits.length (by omega) (by omega) (Nat.le_refl _)
  have hask := btN_ask (fun k => (gD_in b3 k).1) (fun k => (gD_in b4 k).1) hT hits.length 0 hits.length (by omega) (by omega) (Nat.le_refl _)
  obtain ⟨N, hN⟩ : ∃ N, N = btN (bt (gD hits) (gD gaps)) hits.length 0 hits.length := ⟨_, rfl⟩
  rw [← hN] at hs hrg hask
  rw [e, ← hs]
  simp only
  have hkm := tmT_keys hrg
  rw [Nat.sub_zero] at hkm
  have hsz : (tmT N).size = hits.length := by rw [← keysM_len id, hkm]; simp
  have hp : (parOf (N.spots 0)).2 = 0 := by
    rw [← tmT_spots, spotsBy_right id (tmT N) (by omega) ?_ ?_]
    · rw [hkm, List.pairwise_map, List.pairwise_iff_getElem]
      intro i j hi hj hij
      simp only [List.getElem_range']
      omega
    · rw [hkm]
      intro x hx
      obtain ⟨j, hj, rfl⟩ := List.mem_map.1 hx
      have := List.mem_range'_1.1 hj
      omega
  have hlen : (N.spots 0).length = hits.length := by rw [← tmT_spots, MT.spotsBy_len, hsz]
  have hk : ∀ k, k < (N.spots 0).length → gk (N.spots 0) k = (k : Int) := fun k hk => by
    have e1 := spotsBy_keys id (tmT N) 0
    rw [tmT_spots, hkm] at e1
    have e2 := List.getElem_of_eq e1 (i := k) (by simpa using hk)
    simp only [List.getElem_map, List.getElem_range'] at e2
    rw [gk_eq _ k hk, e2]
    simp
  have hgv : ∀ k, k < (N.spots 0).length → 0 ≤ gv (N.spots 0) k := fun k hk => by rw [gv_eq _ k hk]; exact (gv_bound _ hp k hk).1
  rw [coB, if_neg (fun e => e h0), if_neg (fun e => e hp), if_neg (fun e => e hlen), if_pos (keysUp_iff.2 hk), b2, ← hlen, ← ask_cost rfl hk hgv, hlen, hask]
theorem all_cost {hits gaps : List Int} (h0 : brR hits gaps = 0) (hn : hits.length ≤ 7) {ls : List (List IP)} (h : AllOf hits.length ls) {t : List IP} (ht : t ∈ ls) : ∃ c, coB t hits gaps = (c, 0) ∧ (trB hits gaps).2.1 ≤ c := by
  obtain ⟨b1, b2, b3, b4⟩ := brR_ok h0
  obtain ⟨a1, a2, a3⟩ := allOf_mem hn h ht
  obtain ⟨c1, c2⟩ := coB_right h0 a1 a2 a3
  refine ⟨_, c1, ?_⟩
  rw [trB, if_pos h0]
  exact ask_least (fun k => (gD_in b3 k).1) (fun k => (gD_in b4 k).1) _ _ _ c2
end Go.Proofs.Ytpmhpogkpkhbfaa
