/-
  hedgkeep.ok: what it answers. Conditions: the list reads as l (RD).
-/
import Derived.Test.YtcpponjknmkfaaaArr
namespace Go.Proofs.Ytcpponjknmkfaaa
open Go.ChangeShapes Go.WideShapes Go.ChangeAt Go.RowKit
set_option linter.unusedVariables false
set_option linter.unusedSimpArgs false

def okL (l : List Int) : Bool := l.all fun e => e == 0
def OkRel (l : List Int) (w : World) (i : Value) (wr : World) : Prop := ∃ k : Nat, k ≤ l.length ∧ i = .int .i64 k ∧ okL (l.drop k) = okL l ∧ w = wr

set_option maxHeartbeats 400000 in
theorem ok_any (l : List Int) (v : Value) (w : World) (hr : RD w eInt v l) : Calls Try.prog 30 #[v] w fun e w' => e = .returned (.bool (okL l)) ∧ w = w' := by
  obtain ⟨A, c, rfl, hc, hm⟩ := hr.shape
  have HR := hide hr
  clear hr
  go_enter Try.func30, Try.ntmps30
  go_wp2
  go_loopw [7] (OkRel l w) (fun i _ => l.length - (intOf i).toNat)
  case atStart => exact ⟨0, by omega, rfl, rfl, rfl⟩
  case round =>
    obtain ⟨k, hk, rfl, hok, rfl⟩ := hrel
    have HO := hide hok
    clear hok
    by_cases hlt : k < l.length
    · obtain ⟨b, o, rfl, hb, c0⟩ := HR.out.int hlt
      have hd : Hid (okL (l.drop k) = (l[k] == 0 && okL (l.drop (k + 1)))) := hide (by rw [List.drop_eq_getElem_cons hlt]; rfl)
      by_cases h0 : l[k] = 0
      · have hn : (l[k] != 0) = false := by simp [h0]
        have hst : Hid (okL (l.drop (k + 1)) = okL l) := hide (by rw [← HO.out, hd.out, h0]; rfl)
        clear h0
        go_wp2
        go_roundw
        case rel => exact ⟨k + 1, by omega, by go_num, hst.out, rfl⟩
        case measure => simp [intOf]; omega
      · have hn : (l[k] != 0) = true := by simp [h0]
        have hst : Hid (okL l = false) := hide (by rw [← HO.out, hd.out]; simp [h0])
        clear h0
        go_wp2
        go_ret
        exact ⟨by rw [hst.out]; rfl, rfl⟩
    · have hst : Hid (okL l = true) := hide (by rw [← HO.out, List.drop_of_length_le (by omega)]; rfl)
      go_wp2
      go_ret
      exact ⟨by rw [hst.out]; rfl, rfl⟩
end Go.Proofs.Ytcpponjknmkfaaa
