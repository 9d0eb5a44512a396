/-
  grow.place, grow.put, grow.told: what they answer. Conditions: the tree that the link holds is written as MR says.
-/
import Derived.Test.YthbapflabjogkaaHeapOneM9

namespace Go.Proofs.Ythbapflabjogkaa
open Go.ChangeShapes Go.WideShapes Go.ChangeAt Go.RowKit
set_option linter.unusedVariables false
set_option linter.unusedSimpArgs false

theorem MR.uniq {α : Type} {E : Enc α} {nt : TypeId} {w : World} : ∀ {t t' : MT α} {p : Option Addr} {F F' : List Nat}, MR w nt E t p F → MR w nt E t' p F' → t.size = t'.size
  | .nil, .nil, _, _, _, _, _ => rfl
  | .nil, .node _ _ _, p, F, F', ⟨h, _⟩, ⟨b, _, _, _, _, h', _⟩ => by rw [h] at h'; cases h'
  | .node _ _ _, .nil, p, F, F', ⟨b, _, _, _, _, h', _⟩, ⟨h, _⟩ => by rw [h] at h'; cases h'
  | .node a l r, .node a' l' r', p, F, F', ⟨b, pl, pr, Fl, Fr, h1, _, h2, _, _, _, hl, hr⟩, ⟨b', pl', pr', Fl', Fr', h1', _, h2', _, _, _, hl', hr'⟩ => by
    rw [h1] at h1'
    injection h1' with h1'
    injection h1' with h1'
    subst h1'
    unfold BC at h2 h2'
    rw [h2] at h2'
    injection h2' with h2'
    injection h2' with h3
    have h4 : nodeC E a pl pr = nodeC E a' pl' pr' := by simpa using congrArg Array.toList h3
    unfold nodeC at h4
    have h5 := (List.append_inj h4 (by rw [E.len, E.len])).2
    simp at h5
    obtain ⟨rfl, rfl⟩ := h5
    simp only [MT.size]
    rw [MR.uniq hl hl', MR.uniq hr hr']
/-- The size of the tree that a link holds. -/
noncomputable def szAt {α : Type} (nt : TypeId) (E : Enc α) (v : Value) (w : World) : Nat := by
  classical
  exact if h : ∃ (q : Addr) (t : MT α) (p : Option Addr) (F : List Nat), v = .pointer (some q) ∧ w.cell? q = some (.pointer p) ∧ MR w nt E t p F then h.choose_spec.choose.size else 0
theorem szAt_eq {α : Type} {E : Enc α} {nt : TypeId} {w : World} {q : Addr} {t : MT α} {p : Option Addr} {F : List Nat} (hc : w.cell? q = some (.pointer p)) (hm : MR w nt E t p F) : szAt nt E (.pointer (some q)) w = t.size := by
  unfold szAt
  have h : ∃ (q' : Addr) (t : MT α) (p : Option Addr) (F : List Nat), Value.pointer (some q) = .pointer (some q') ∧ w.cell? q' = some (.pointer p) ∧ MR w nt E t p F := ⟨q, t, p, F, rfl, hc, hm⟩
  rw [dif_pos h]
  obtain ⟨p', F', h1, h2, h3⟩ := h.choose_spec.choose_spec
  generalize h.choose_spec.choose = t' at h3
  generalize h.choose = q' at h1 h2
  injection h1 with h1
  injection h1 with h1
  subst h1
  rw [hc] at h2
  injection h2 with h2
  injection h2 with h2
  subst h2
  exact (MR.uniq hm h3).symm

/-- The way goes by a key. -/
def Dir {α : Type} (kf : α → Int) (C : List (Fm α)) (key : Int) : Prop := ∀ f ∈ C, (f.left = true → key < kf f.a) ∧ (f.left = false → kf f.a < key)
theorem Dir.nil {α : Type} {kf : α → Int} {key : Int} : Dir kf [] key := fun f hf => by cases hf
theorem Dir.cons {α : Type} {kf : α → Int} {C : List (Fm α)} {key : Int} {f : Fm α} (h : Dir kf C key) (hf : (f.left = true → key < kf f.a) ∧ (f.left = false → kf f.a < key)) : Dir kf (f :: C) key := fun x hx => by
  rcases List.mem_cons.1 hx with rfl | hx
  · exact hf
  · exact h x hx
/-- Where the way of a link stands. -/
structure At_ {α : Type} (w : World) (nt : TypeId) (E : Enc α) (kf : α → Int) (r0 : Addr) (T : MT α) (F : List Nat) (key : Int) (C : List (Fm α)) (q : Addr) (t : MT α) (p : Option Addr) (Fc Ft : List Nat) : Prop where
  zp : ZP w nt E r0 C q Fc
  cell : w.cell? q = some (.pointer p)
  fz : w.frozen? q = false
  mr : MR w nt E t p Ft
  dis : ∀ x ∈ Ft, x ∉ Fc
  eq : T = plug C t
  dir : Dir kf C key
  sub : ∀ x, x ∈ Ft ∨ x ∈ Fc → x ∈ F
theorem At_.start {α : Type} {w : World} {nt : TypeId} {E : Enc α} {kf : α → Int} {r0 : Addr} {T : MT α} {F : List Nat} {p : Option Addr} (key : Int) (hc : w.cell? r0 = some (.pointer p)) (hf : w.frozen? r0 = false) (hm : MR w nt E T p F) :
    At_ w nt E kf r0 T F key [] r0 T p [] F := ⟨ZP.nil, hc, hf, hm, by simp, rfl, Dir.nil, fun x hx => by simpa using hx⟩
theorem At_.down {α : Type} {w : World} {nt : TypeId} {E : Enc α} {kf : α → Int} {r0 : Addr} {T : MT α} {F : List Nat} {key : Int} {C : List (Fm α)} {q : Addr} {a : α} {l r : MT α} {b : Nat} {pl pr : Option Addr} {Fc Fl Fr : List Nat}
    (h : At_ w nt E kf r0 T F key C q (.node a l r) (some ⟨b, 0, none⟩) Fc (b :: (Fl ++ Fr))) (hb : BC w b nt (nodeC E a pl pr)) (h1 : b ∉ Fl) (h2 : b ∉ Fr) (h3 : ∀ x ∈ Fl, x ∉ Fr) (hl : MR w nt E l pl Fl) (hr : MR w nt E r pr Fr) :
    (key < kf a → At_ w nt E kf r0 T F key (⟨a, true, r⟩ :: C) ⟨b, E.size, none⟩ l pl (b :: (Fr ++ Fc)) Fl) ∧ (kf a < key → At_ w nt E kf r0 T F key (⟨a, false, l⟩ :: C) ⟨b, E.size + 1, none⟩ r pr (b :: (Fl ++ Fc)) Fr) := by
  have hbc : b ∉ Fc := h.dis b (by simp)
  have hlc : ∀ x ∈ Fl, x ∉ Fc := fun x hx => h.dis x (by simp [hx])
  have hrc : ∀ x ∈ Fr, x ∉ Fc := fun x hx => h.dis x (by simp [hx])
  refine ⟨fun hk => ⟨?_, ?_, hb.frozen _, hl, ?_, by rw [h.eq]; rfl, h.dir.cons ⟨fun _ => hk, fun h => by simp at h⟩, ?_⟩, fun hk => ⟨?_, ?_, hb.frozen _, hr, ?_, by rw [h.eq]; rfl, h.dir.cons ⟨fun h => by simp at h, fun _ => hk⟩, ?_⟩⟩
  · exact h.zp.push h.cell hb hl hr h1 h2 hbc hlc hrc true
  · exact hb.link true
  · intro x hx hx'
    rcases List.mem_cons.1 hx' with rfl | hx'
    · exact h1 hx
    · rcases List.mem_append.1 hx' with hx' | hx'
      · exact h3 x hx hx'
      · exact hlc x hx hx'
  · intro x hx
    refine h.sub x ?_
    simp only [List.mem_cons, List.mem_append] at hx ⊢
    rcases hx with hx | hx | hx | hx
    · exact .inl (.inr (.inl hx))
    · exact .inl (.inl hx)
    · exact .inl (.inr (.inr hx))
    · exact .inr hx
  · exact h.zp.push h.cell hb hl hr h1 h2 hbc hlc hrc false
  · exact hb.link false
  · intro x hx hx'
    rcases List.mem_cons.1 hx' with rfl | hx'
    · exact h2 hx
    · rcases List.mem_append.1 hx' with hx' | hx'
      · exact h3 x hx' hx
      · exact hrc x hx hx'
  · intro x hx
    refine h.sub x ?_
    simp only [List.mem_cons, List.mem_append] at hx ⊢
    rcases hx with hx | hx | hx | hx
    · exact .inl (.inr (.inr hx))
    · exact .inl (.inl hx)
    · exact .inl (.inr (.inl hx))
    · exact .inr hx

def PlRel (w : World) (r0 : Addr) (T : MT IP) (F : List Nat) (key : Int) (nt : TypeId) (qv : Value) (wr : World) : Prop :=
  ∃ C q t p Fc Ft, qv = .pointer (some q) ∧ At_ w nt ePair Prod.fst r0 T F key C q t p Fc Ft ∧ w = wr
def PlPost (w : World) (r0 : Addr) (T : MT IP) (F : List Nat) (key : Int) (nt : TypeId) (e : Ending) (w' : World) : Prop :=
  ∃ C q t p Fc Ft, e = .returned (.pointer (some q)) ∧ At_ w nt ePair Prod.fst r0 T F key C q t p Fc Ft ∧ (∀ a l r, t = .node a l r → a.1 = key) ∧ w = w'
set_option maxRecDepth 100000 in
set_option maxHeartbeats 4000000 in
theorem place_any (T : MT IP) (r0 : Addr) (p0 : Option Addr) (F : List Nat) (key : Int) (w : World) (hc : w.cell? r0 = some (.pointer p0)) (hf : w.frozen? r0 = false) (hm : MR w 77 ePair T p0 F) :
    Calls Try.prog 44 #[.pointer (some r0), .int .i64 key] w (PlPost w r0 T F key 77) := by
  have HS := hide (At_.start (kf := Prod.fst) key hc hf hm)
  clear hc hf hm
  go_enter Try.func44, Try.ntmps44
  go_wp2
  go_loopw [0] (PlRel w r0 T F key 77) (szAt 77 ePair)
  case atStart => exact ⟨_, _, _, _, _, _, rfl, HS.out, rfl⟩
  case round =>
    obtain ⟨C, q, t, p, Fc, Ft, rfl, ha, rfl⟩ := hrel
    have HA := hide ha
    have c0 := ha.cell
    have hm := ha.mr
    clear ha
    cases p with
    | none =>
      obtain ⟨rfl, rfl⟩ := hm.of_none
      clear hm
      go_wp2
      go_ret
      exact ⟨C, q, _, _, Fc, _, rfl, HA.out, (fun a l r h => by cases h), rfl⟩
    | some ad =>
      obtain ⟨a, l, r, b, pl, pr, Fl, Fr, rfl, rfl, rfl, hb, g1, g2, g3, hl, hr⟩ := hm.of_some
      have ck : w.cell? ⟨b, 0, none⟩ = some (.int .i64 a.1) := hb.cell 0
      have HD := hide (HA.out.down hb g1 g2 g3 hl hr)
      have hms := szAt_eq c0 hm
      have hml : ∀ h : True, szAt 77 ePair (.pointer (some ⟨b, 2, none⟩)) w = l.size := fun _ => szAt_eq (hb.link true) hl
      have hmr : ∀ h : True, szAt 77 ePair (.pointer (some ⟨b, 3, none⟩)) w = r.size := fun _ => szAt_eq (hb.link false) hr
      have HMS := hide hms
      have HML := hide hml
      have HMR := hide hmr
      clear hm hb g1 g2 g3 hl hr hms hml hmr
      rcases Int.lt_trichotomy key a.1 with hk | hk | hk
      · have d1 : (a.1 != key) = true := by rw [bne_iff_ne]; omega
        have HN := hide (HD.out.1 hk)
        go_wp2
        go_roundw
        case rel => exact ⟨_, _, _, _, _, _, rfl, HN.out, rfl⟩
        case measure => rw [HML.out trivial, HMS.out]; simp only [MT.size]; omega
      · have d1 : (a.1 != key) = false := by simp [hk]
        have HK := hide hk
        clear hk
        go_wp2
        go_ret
        exact ⟨C, q, _, _, Fc, _, rfl, HA.out, (fun a' l' r' h => by injection h with h; subst h; exact HK.out.symm), rfl⟩
      · have d1 : (a.1 != key) = true := by rw [bne_iff_ne]; omega
        have d2 : decide (key < a.1) = false := by simp; omega
        have HN := hide (HD.out.2 hk)
        go_wp2
        go_roundw
        case rel => exact ⟨_, _, _, _, _, _, rfl, HN.out, rfl⟩
        case measure => rw [HMR.out trivial, HMS.out]; simp only [MT.size]; omega

/-! Put: a new leaf where the way ends. -/
def ins : MT IP → IP → MT IP
  | .nil, p => .node p .nil .nil
  | .node a l r, p => if p.1 < a.1 then .node a (ins l p) r else if a.1 < p.1 then .node a l (ins r p) else .node a l r
theorem ins_on {f : Fm IP} {p : IP} (h : (f.left = true → p.1 < f.a.1) ∧ (f.left = false → f.a.1 < p.1)) (t : MT IP) : ins (f.on t) p = f.on (ins t p) := by
  obtain ⟨a, left, o⟩ := f
  cases left with
  | true => simp [Fm.on, ins, h.1 rfl]
  | false =>
    have := h.2 rfl
    simp only at this
    simp [Fm.on, ins, this, show ¬ p.1 < a.1 by omega]
theorem ins_plug {p : IP} : ∀ (C : List (Fm IP)) (t : MT IP), Dir Prod.fst C p.1 → ins (plug C t) p = plug C (ins t p)
  | [], _, _ => rfl
  | f :: C, t, h => by
    have h1 := ins_plug C (f.on t) (fun x hx => h x (by simp [hx]))
    rw [plug, h1, ins_on (h f (by simp)), plug]
/-- What a call leaves that changes the tree of a link. -/
def TPost {α : Type} (nt : TypeId) (E : Enc α) (r0 : Addr) (T' : MT α) (F : List Nat) (w : World) (e : Ending) (w' : World) : Prop :=
  ∃ p F', e = .returned (.tuple #[]) ∧ w'.cell? r0 = some (.pointer p) ∧ MR w' nt E T' p F' ∧ (∀ x ∈ F', x ∈ F ∨ w.heap.size ≤ x) ∧ w'.frozen? r0 = false ∧ Kf (fun i => i = r0.block ∨ i ∈ F) w w'
theorem ZP.blk {α : Type} {w : World} {nt : TypeId} {E : Enc α} {r0 q : Addr} {C : List (Fm α)} {F : List Nat} (h : ZP w nt E r0 C q F) {F0 : List Nat} (hs : ∀ x ∈ F, x ∈ F0) : q.block = r0.block ∨ q.block ∈ F0 := by
  rcases h.at_ with rfl | h
  · exact .inl rfl
  · exact .inr (hs _ h)
/-- The store into a link makes the tree anew. -/
theorem At_.put {α : Type} {w w1 : World} {nt : TypeId} {E : Enc α} {kf : α → Int} {r0 : Addr} {T : MT α} {F : List Nat} {key : Int} {C : List (Fm α)} {q : Addr} {t : MT α} {p : Option Addr} {Fc Ft : List Nat} (h : At_ w nt E kf r0 T F key C q t p Fc Ft)
    (hr : r0.block ∉ F) (hk : Kp w w1) (hrl : r0.block < w.heap.size) (hfr : w.frozen? r0 = false) {t' : MT α} {p' : Option Addr} {Ft' : List Nat} (hm : MR w1 nt E t' p' Ft') (hd : ∀ x ∈ Ft', x ∉ Fc) (hq : q.block ∉ Ft') (hn : ∀ x ∈ Ft', x ∈ F ∨ w.heap.size ≤ x) :
    ∃ p0 F0, (w1.setCell q (.pointer p')).cell? r0 = some (.pointer p0) ∧ MR (w1.setCell q (.pointer p')) nt E (plug C t') p0 F0 ∧ (∀ x ∈ F0, x ∈ F ∨ w.heap.size ≤ x) ∧ (w1.setCell q (.pointer p')).frozen? r0 = false ∧ Kf (fun i => i = r0.block ∨ i ∈ F) w (w1.setCell q (.pointer p')) := by
  have hfc : r0.block ∉ Fc := fun hx => hr (h.sub _ (.inr hx))
  have hz1 := (h.zp.kp hk hrl).store hfc p'
  have hqc : (w1.setCell q (.pointer p')).cell? q = some (.pointer p') := World.cell?_setCell_same' w1 q _ (by rw [hk.cell h.cell]; rfl)
  obtain ⟨p0, F0, g1, g2, g3⟩ := hz1.close hqc (hm.set hq) hd
  refine ⟨p0, F0, g1, g2, fun x hx => ?_, ?_, ?_⟩
  · rcases (g3 x).1 hx with hx | hx
    · exact hn x hx
    · exact .inl (h.sub x (.inr hx))
  · rw [World.frozen?_setCell, hk.frozen hrl]; exact hfr
  · exact (Kf.of hk).set (.inl (h.zp.blk fun x hx => h.sub x (.inr hx)))
set_option maxRecDepth 100000 in
set_option maxHeartbeats 4000000 in
theorem growPut_any (T : MT IP) (r0 : Addr) (p0 : Option Addr) (F : List Nat) (key val : Int) (w : World) (hc : w.cell? r0 = some (.pointer p0)) (hf : w.frozen? r0 = false) (hm : MR w 77 ePair T p0 F) (hr : r0.block ∉ F) :
    Calls Try.prog 35 #[.pointer (some r0), .agg #[.int .i64 key, .int .i64 val]] w (TPost 77 ePair r0 (ins T (key, val)) F w) := by
  have hrl := World.block_lt_of_cell? _ _ hc
  have hk1 : Kp w (w.alloc (.cells #[.int .i64 key, .int .i64 val] 37)) := (Kp.refl w).alloc
  have HP := hide (place_any T r0 p0 F key _ (hk1.cell hc) ((hk1.frozen hrl).trans hf) (hm.kp hk1))
  have HF := hide hf
  clear hc hf hm hk1
  go_enter Try.func35, Try.ntmps35
  go_wp2_with fail
  with_reducible refine HP.out.mono ?_
  rintro e w1 ⟨C, q, t, p, Fc, Ft, rfl, ha, hend, rfl⟩
  have HA := hide ha
  have HE := hide hend
  have c0 := ha.cell
  have f0 := ha.fz
  have hm := ha.mr
  have HW : Hid ((w.alloc (.cells #[.int .i64 key, .int .i64 val] 37)).heap.size = w.heap.size + 1) := hide (by simp)
  have HKW : Hid (Kp w (w.alloc (.cells #[.int .i64 key, .int .i64 val] 37))) := hide (Kp.refl w).alloc
  have HRL := hide hrl
  clear hend ha
  cases p with
  | none =>
    obtain ⟨rfl, rfl⟩ := hm.of_none
    clear hm
    have x0 : (w.alloc (.cells #[.int .i64 key, .int .i64 val] 37)).cell? ⟨w.heap.size, 0, none⟩ = some (.int .i64 key) := by simp [go_sem]
    have x1 : (w.alloc (.cells #[.int .i64 key, .int .i64 val] 37)).cell? ⟨w.heap.size, 1, none⟩ = some (.int .i64 val) := by simp [go_sem]
    have KX := Kp.refl (w.alloc (.cells #[.int .i64 key, .int .i64 val] 37))
    have c1 := (KX.alloc (o := .cells #[.int .i64 key, .int .i64 val, .pointer none, .pointer none] 77)).cell c0
    have f1 : ((w.alloc (.cells #[.int .i64 key, .int .i64 val] 37)).alloc (.cells #[.int .i64 key, .int .i64 val, .pointer none, .pointer none] 77)).frozen? q = false := (KX.alloc.frozen (World.block_lt_of_cell? _ _ c0)).trans f0
    clear KX
    go_wp2
    have hz := HW.out
    have hq : q.block ≠ (w.alloc (.cells #[.int .i64 key, .int .i64 val] 37)).heap.size := by have := World.block_lt_of_cell? _ _ c0; omega
    have hleaf : MR ((w.alloc (.cells #[.int .i64 key, .int .i64 val] 37)).alloc (.cells #[.int .i64 key, .int .i64 val, .pointer none, .pointer none] 77)) 77 ePair (.node (key, val) .nil .nil) (some ⟨(w.alloc (.cells #[.int .i64 key, .int .i64 val] 37)).heap.size, 0, none⟩) [(w.alloc (.cells #[.int .i64 key, .int .i64 val] 37)).heap.size] := MR.leaf (nt := 77) (E := ePair) _ (key, val)
    obtain ⟨p1, F1, g1, g2, g3, g4, g5⟩ := HA.out.put hr (Kp.refl _).alloc (by have := HRL.out; omega) ((HKW.out.frozen HRL.out).trans HF.out) hleaf (fun x hx hx' => by
      simp at hx
      have := HA.out.zp.bc x hx'
      obtain ⟨cs, h⟩ := this
      have := h.lt
      simp at this; omega) (by simp at hq ⊢; exact hq) (fun x hx => by simp at hx; right; omega)
    refine bodyPost_ret (v := .tuple #[]) (by simp [results, Try.results35, go_sem]) rfl ⟨p1, F1, rfl, ?_, ?_, fun x hx => ?_, ?_, ?_⟩
    · simpa using g1
    · have : ins T (key, val) = plug C (.node (key, val) .nil .nil) := by rw [HA.out.eq, ins_plug C _ HA.out.dir]; rfl
      rw [this]
      simpa using g2
    · rcases g3 x hx with h | h
      · exact .inl h
      · exact .inr (by omega)
    · simpa using g4
    · have := (Kf.of (F := fun i => i = r0.block ∨ i ∈ F) HKW.out).trans g5 (fun i _ h => h)
      simpa using this
  | some ad =>
    obtain ⟨a, l, r, b, pl, pr, Fl, Fr, rfl, rfl, rfl, hb, g1, g2, g3, hl, hr2⟩ := hm.of_some
    have hak := HE.out a l r rfl
    have HAK := hide hak
    have HM := hide hm
    clear hm hb g1 g2 g3 hl hr2 hak
    go_wp2
    have hz := HW.out
    obtain ⟨p1, F1, k1, k2, k3⟩ := HA.out.zp.close HA.out.cell HM.out HA.out.dis
    have hT : ins T (key, val) = plug C (.node a l r) := by
      rw [HA.out.eq, ins_plug C _ HA.out.dir, ins, if_neg (by simp only; have := HAK.out; omega), if_neg (by simp only; have := HAK.out; omega)]
    refine bodyPost_ret (v := .tuple #[]) (by simp [results, Try.results35, go_sem]) rfl ⟨p1, F1, rfl, k1, by rw [hT]; exact k2, fun x hx => .inl (HA.out.sub x ((k3 x).1 hx)), (HKW.out.frozen HRL.out).trans HF.out, Kf.of HKW.out⟩
end Go.Proofs.Ythbapflabjogkaa
