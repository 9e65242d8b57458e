/- Walks of the plain laws: FnExactConstants, FnExactValidText. -/
import Derived.Test.YtefnaimopkmpmaaV
namespace Go.Proofs.Ytefnaimopkmpmaa
open Go.RowKit
set_option linter.unusedVariables false

set_option maxHeartbeats 400000 in
theorem walk_FnExactConstants (w : World) :
    Calls Try.prog 3 #[] w fun e w' => e = .returned (.bool true) ∧ Below w.heap.size w w' := by
  go_enter Try.func3, Try.ntmps3
  go_wp2
  go_ret
  exact ⟨rfl, Below.refl _ _⟩

set_option maxHeartbeats 400000 in
theorem walk_FnExactValidText (s : ByteArray) (w : World) (hs : s.size ≤ maxLen) :
    Calls Try.prog 4 #[.string s] w fun e w' => e = .returned (.bool true) ∧ Below w.heap.size w w' := by
  have hs' := hs
  unfold maxLen at hs'
  go_enter Try.func4, Try.ntmps4
  go_wp2_with (first | (go_at_call 15; refine (s_ValidText _ _ hs).mono ?_; rintro e w' ⟨rfl, rfl⟩) | (go_at_call 16; refine (i_ValidText _ _ hs).mono ?_; rintro e w1 ⟨rfl, hb⟩))
  · go_ret; exact ⟨rfl, Below.refl _ _⟩
  · go_ret; exact ⟨rfl, hb⟩
end Go.Proofs.Ytefnaimopkmpmaa
