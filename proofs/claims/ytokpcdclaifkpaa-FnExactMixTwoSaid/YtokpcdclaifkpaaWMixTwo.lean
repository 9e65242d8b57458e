/- Walk of the law FnExactMixTwo, out of the contracts of the reference's and the program's function. -/
import Derived.Test.YtokpcdclaifkpaaMw
import Derived.Test.YtokpcdclaifkpaaMi
namespace Go.Proofs.Ytokpcdclaifkpaa
open Go.RowKit
set_option linter.unusedVariables false
set_option maxHeartbeats 1000000 in
theorem walk_FnExactMixTwo (x0 x1 : ByteArray) (w : World) (hx0 : x0.size ≤ maxLen) (hx1 : x1.size ≤ maxLen) :
    Calls Try.prog 14 #[.string x0, .string x1] w fun e w' => e = .returned (.bool true) ∧ Below w.heap.size w w' := by
  have hy0 := hx0; unfold maxLen at hy0
  have hy1 := hx1; unfold maxLen at hy1
  obtain ⟨o, ho⟩ : ∃ o, o = mixB x0 x1 := ⟨_, rfl⟩
  obtain ⟨y, hy⟩ : ∃ y, y = mixOk x0 x1 := ⟨_, rfl⟩
  have HO := Lib.hid ho; have HY := Lib.hid hy
  clear ho hy
  by_cases hbig : x0.size ≤ 1048576
  · by_cases hbig1 : x1.size ≤ 1048576
    · go_enter Try.func14, Try.ntmps14
      go_wp2_with fail
      refine (s_MixTwo x0 x1 _ hx0 hx1).mono ?_; rintro e w1 ⟨rfl, hb1⟩
      rw [← HO.out, ← HY.out]
      go_wp2_with fail
      refine (i_MixTwo x0 x1 _ hx0 hx1).mono ?_; rintro e w2 ⟨rfl, hb2⟩
      rw [← HO.out, ← HY.out]
      have HB := Lib.hid (below_then hb1 hb2)
      clear hb1 hb2
      go_wp2
      go_ret
      exact ⟨rfl, HB.out⟩
    · go_enter Try.func14, Try.ntmps14
      go_wp2_with fail
      all_goals first | (go_ret; exact ⟨rfl, Below.refl _ _⟩) | (exfalso; apply hbig1; omega)
  · go_enter Try.func14, Try.ntmps14
    go_wp2_with fail
    all_goals first | (go_ret; exact ⟨rfl, Below.refl _ _⟩) | (exfalso; apply hbig; omega)
end Go.Proofs.Ytokpcdclaifkpaa
