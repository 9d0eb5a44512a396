/-
  slices.SortStableFunc at spots: the row is sorted, those of one depth stay in order. Conditions: the row is the call's own (OW).
-/
import Derived.Test.YtcpponjknmkfaaaStStab
namespace Go.Proofs.Ytcpponjknmkfaaa
open Go.ChangeShapes Go.WideShapes Go.ChangeAt Go.RowKit
set_option linter.unusedVariables false
set_option linter.unusedSimpArgs false

def SmPost (w : World) (e : Ending) (w' : World) : Prop := e = .returned (.tuple #[]) ∧ w = w'
set_option maxRecDepth 100000 in
theorem ins_none (A : Option Addr) (n c : Nat) (fv : Value) (w : World) : Calls Try.prog 55 #[.slice A n c, .int .i64 0, .int .i64 0, fv] w (SmPost w) := by
  go_enter Try.func55, Try.ntmps55
  go_wp2
  go_loopw [8] (fun iv wr => iv = .int .i64 1 ∧ w = wr) (fun _ _ => 0)
  case atStart => exact ⟨rfl, rfl⟩
  case round =>
    obtain ⟨rfl, rfl⟩ := hrel
    go_wp2
    exact bodyPost_ret (v := .tuple #[]) (by simp [results, Try.results55, go_sem]) rfl ⟨rfl, rfl⟩
set_option maxRecDepth 100000 in
theorem stable_none (A : Option Addr) (c : Nat) (fv : Value) (w : World) : Calls Try.prog 50 #[.slice A 0 c, .int .i64 0, fv] w (SmPost w) := by
  have HI := hide (fun W => ins_none A 0 c fv W)
  go_enter Try.func50, Try.ntmps50
  go_wp2
  go_loopw [7, 8] (fun av bv wr => av = .int .i64 0 ∧ bv = .int .i64 20 ∧ w = wr) (fun _ _ _ => 0)
  case atStart => exact ⟨rfl, rfl, rfl⟩
  case round =>
    obtain ⟨rfl, rfl, rfl⟩ := hrel
    go_wp2_with fail
    with_reducible refine (HI.out _).mono ?_
    rintro e w1 ⟨rfl, rfl⟩
    go_wp2
    go_loopw [6] (fun sv wr => sv = .int .i64 20 ∧ w = wr) (fun _ _ => 0)
    case atStart => exact ⟨rfl, rfl⟩
    case round =>
      obtain ⟨rfl, rfl⟩ := hrel
      go_wp2
      exact bodyPost_ret (v := .tuple #[]) (by simp [results, Try.results50, go_sem]) rfl ⟨rfl, rfl⟩
/-- What SortStableFunc leaves of a row of the call's own. -/
def SsPost (B : Nat) (e : TypeId) (v : Value) (l : List IP) (w : World) (en : Ending) (w' : World) : Prop :=
  en = .returned (.tuple #[]) ∧ ∃ l', SortedK Prod.snd l' ∧ StabEq Prod.snd l l' ∧ l'.length = l.length ∧ OW w' B e ePair v l' ∧ Kf (fun i => v.ownBlock = some i) w w'
set_option maxRecDepth 100000 in
theorem sortStable_any (l : List IP) (v : Value) (B : Nat) (w : World) (hn : l.length ≤ 1000) (ho : OW w B 41 ePair v l) :
    Calls Try.prog 36 #[v, .func (.func 37) #[] #[]] w (SsPost B 41 v l w) := by
  by_cases h0 : l.length = 0
  · obtain rfl : l = [] := List.eq_nil_of_length_eq_zero h0
    have HO := hide ho
    obtain ⟨A, c, rfl, _, _⟩ := ho.rd.shape
    have HSN := hide (fun W fv => stable_none A c fv W)
    clear ho h0
    simp only [List.length_nil] at HO ⊢
    go_enter Try.func36, Try.ntmps36
    go_wp2_with fail
    with_reducible refine (HSN.out _ _).mono ?_
    rintro e w1 ⟨rfl, rfl⟩
    go_wp2
    exact bodyPost_ret (v := .tuple #[]) (by simp [results, Try.results36, go_sem]) rfl ⟨rfl, [], List.Pairwise.nil, StabEq.refl _, rfl, HO.out, Kf.refl _ _⟩
  · obtain ⟨g, c, rfl, _, _⟩ := ho.shape (by omega)
    have HSN := hide (stable_any l l.length c g B w hn ho)
    clear ho
    go_enter Try.func36, Try.ntmps36
    go_wp2_with fail
    with_reducible refine HSN.out.mono ?_
    rintro e w1 ⟨rfl, l', h1, h2, h3, ho1, hk1⟩
    have H1 := hide (And.intro h1 (And.intro h2 h3))
    have HO1 := hide ho1
    have HK1 := hide hk1
    clear h1 h2 h3 ho1 hk1
    go_wp2
    exact bodyPost_ret (v := .tuple #[]) (by simp [results, Try.results36, go_sem]) rfl ⟨rfl, l', H1.out.1, H1.out.2.1, H1.out.2.2, HO1.out, HK1.out.mono (fun i _ h => by simp [Value.ownBlock, h])⟩
end Go.Proofs.Ytcpponjknmkfaaa
