/- Walk of the law FnExactHasWord, out of the contracts of the reference's and the program's function. -/
import Derived.Test.YtefnaimopkmpmaaH
namespace Go.Proofs.Ytefnaimopkmpmaa
open Go.RowKit
set_option linter.unusedVariables false

set_option maxHeartbeats 1000000 in
theorem walk_FnExactHasWord (x0 : ByteArray) (x1 : ByteArray) (w : World) (hx0 : x0.size ≤ maxLen) (hx1 : x1.size ≤ maxLen) (hm : MaxAt w) :
    Calls Try.prog 9 #[.string x0, .string x1] w fun e w' => e = .returned (.bool true) ∧ Below w.heap.size w w' := by
  have hy0 := hx0; unfold maxLen at hy0
  have hy1 := hx1; unfold maxLen at hy1
  by_cases hbig : x0.size ≤ 1048576 ∧ x1.size ≤ 1048576
  · obtain ⟨hb0, hb1⟩ := hbig
    have HM := Lib.hid hm; clear hm
    go_enter Try.func9, Try.ntmps9
    go_wp2_with fail
    refine (s_HasWord x0 x1 _ hx0 hx1).mono ?_; rintro e w1 ⟨rfl, hb1⟩
    go_wp2_with fail
    refine (i_HasWord x0 x1 _ hx0 hx1 (HM.out.kept hb1)).mono ?_; rintro e w2 ⟨rfl, hb2⟩
    have s1 := hb1.size
    go_wp2
    go_ret
    exact ⟨rfl, hb1.trans (hb2.mono (by omega))⟩
  · go_enter Try.func9, Try.ntmps9
    go_wp2_with fail
    all_goals first | (go_ret; exact ⟨rfl, Below.refl _ _⟩) | (exfalso; apply hbig; refine ⟨?_, ?_⟩ <;> omega)
end Go.Proofs.Ytefnaimopkmpmaa
