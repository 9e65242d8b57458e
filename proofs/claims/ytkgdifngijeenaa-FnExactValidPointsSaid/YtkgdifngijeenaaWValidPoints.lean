/- Walk of the law FnExactValidPoints. -/
import Derived.Test.YtkgdifngijeenaaVp
namespace Go.Proofs.Ytkgdifngijeenaa
open Go.RowKit
set_option linter.unusedVariables false

set_option maxHeartbeats 1000000 in
theorem walk_FnExactValidPoints (pa : Option Addr) (n cap : Nat) (w : World) (hx : IntsAt w pa n cap) :
    Calls Try.prog 3 #[.slice pa n cap] w fun e w' => e = .returned (.bool true) ∧ Below w.heap.size w w' := by
  obtain ⟨xs, hx⟩ := hx
  have hcap : cap ≤ 9223372036854775807 := by have := hx.2.2.1; unfold maxLen at this; omega
  have hnc := hx.2.1
  have HX := Lib.hid hx; clear hx
  by_cases hn : n ≤ 1048576
  · go_enter Try.func3, Try.ntmps3
    go_wp2_with fail
    refine (l_toIntS pa n cap xs _ HX.out hn).mono ?_; rintro e w1 ⟨p1, n1, c1, rfl, HN1, hle1, hr1, hb1⟩
    obtain rfl : n = n1 := HX.out.1.symm.trans HN1.out
    go_wp2_with fail
    refine (s_ValidPoints p1 n c1 xs _ _ _ HN1.out hle1 hr1).mono ?_; rintro e w2 ⟨rfl, hb2⟩
    have hB2 := below_then hb1 hb2; clear hb1 hb2 hr1
    go_wp2_with fail
    refine (l_toIntS pa n cap xs _ (HX.out.kept hB2) hn).mono ?_; rintro e w3 ⟨p3, n3, c3, rfl, HN3, hle3, hr3, hb3⟩
    obtain rfl : n = n3 := HX.out.1.symm.trans HN3.out
    have hB3 := below_then hB2 hb3; clear hB2 hb3
    go_wp2_with fail
    refine (i_ValidPoints p3 n c3 xs _ _ _ HN3.out hle3 hr3).mono ?_; rintro e w4 ⟨rfl, hb4⟩
    have hr4 := hr3.kept hb4
    have hB4 := below_then hB3 hb4; clear hB3 hb4 hr3
    go_wp2_with fail
    refine (l_toIntS pa n cap xs _ (HX.out.kept hB4) hn).mono ?_; rintro e w5 ⟨p5, n5, c5, rfl, HN5, hle5, hr5, hb5⟩
    obtain rfl : n = n5 := HX.out.1.symm.trans HN5.out
    have hr45 := hr4.kept hb5
    have hB5 := below_then hB4 hb5; clear hB4 hb5 hr4
    go_wp2_with fail
    refine (l_eqIntS p3 p5 n c3 c5 _ _ _ _ _ _ HN3.out hle3 hr45 hr5).mono ?_; rintro e w6 ⟨rfl, hb6⟩
    go_wp2
    go_ret
    exact ⟨rfl, below_then hB5 hb6⟩
  · go_enter Try.func3, Try.ntmps3
    go_wp2
    go_ret
    exact ⟨rfl, Below.refl _ _⟩
end Go.Proofs.Ytkgdifngijeenaa
