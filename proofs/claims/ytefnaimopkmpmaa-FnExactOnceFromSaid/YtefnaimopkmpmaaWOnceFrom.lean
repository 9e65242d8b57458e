/- Walk of the law FnExactOnceFrom, out of the contracts of the reference's and the program's function. -/
import Derived.Test.YtefnaimopkmpmaaOn
namespace Go.Proofs.Ytefnaimopkmpmaa
open Go.RowKit
set_option linter.unusedVariables false

set_option maxHeartbeats 1000000 in
theorem walk_FnExactOnceFrom (x0 : ByteArray) (x1 : Int) (w : World) (hx0 : x0.size ≤ maxLen) (wx1 : (Lit.int .i64 x1).wf = true) :
    Calls Try.prog 14 #[.string x0, .int .i64 x1] w fun e w' => e = .returned (.bool true) ∧ Below w.heap.size w w' := by
  have hy0 := hx0; unfold maxLen at hy0
  by_cases hbig : x0.size ≤ 1048576
  · have hb0 := hbig
    go_enter Try.func14, Try.ntmps14
    go_wp2_with fail
    refine (s_OnceFrom x0 x1 _ hx0 wx1).mono ?_; rintro e w1 ⟨rfl, hb1⟩
    go_wp2_with fail
    refine (i_OnceFrom x0 x1 _ hx0 wx1).mono ?_; rintro e w2 ⟨rfl, hb2⟩
    have s1 := hb1.size
    go_wp2
    go_ret
    exact ⟨rfl, hb1.trans (hb2.mono (by omega))⟩
  · go_enter Try.func14, Try.ntmps14
    go_wp2_with fail
    all_goals first | (go_ret; exact ⟨rfl, Below.refl _ _⟩) | (exfalso; apply hbig; omega)
end Go.Proofs.Ytefnaimopkmpmaa
