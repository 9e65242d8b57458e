/- Walk of the law FnExactFewestPhrases, out of the contracts of the reference's and the program's function. -/
import Derived.Test.YtkgdifngijeenaaFw
namespace Go.Proofs.Ytkgdifngijeenaa
open Go.RowKit
set_option linter.unusedVariables false

set_option maxHeartbeats 1000000 in
theorem walk_FnExactFewestPhrases (x0 : ByteArray) (w : World) (hx0 : x0.size ≤ maxLen) :
    Calls Try.prog 7 #[.string x0] w fun e w' => e = .returned (.bool true) ∧ Below w.heap.size w w' := by
  have hy0 := hx0; unfold maxLen at hy0
  by_cases hbig : x0.size ≤ 1048576
  · have hb0 := hbig
    go_enter Try.func7, Try.ntmps7
    go_wp2_with fail
    refine (s_FewestPhrases x0 _ hx0).mono ?_; rintro e w1 ⟨rfl, hb1⟩
    go_wp2_with fail
    refine (i_FewestPhrases x0 _ hx0).mono ?_; rintro e w2 ⟨rfl, hb2⟩
    have s1 := hb1.size
    go_wp2
    go_ret
    exact ⟨rfl, hb1.trans (hb2.mono (by omega))⟩
  · go_enter Try.func7, Try.ntmps7
    go_wp2_with fail
    all_goals first | (go_ret; exact ⟨rfl, Below.refl _ _⟩) | (exfalso; apply hbig; omega)
end Go.Proofs.Ytkgdifngijeenaa
