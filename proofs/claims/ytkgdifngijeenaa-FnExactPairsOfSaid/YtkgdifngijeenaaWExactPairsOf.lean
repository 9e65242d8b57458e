/- The walk of the law FnExactPairsOf. -/
import Derived.Test.YtkgdifngijeenaaPm
namespace Go.Proofs.Ytkgdifngijeenaa
open Go.RowKit
set_option linter.unusedVariables false

set_option maxHeartbeats 1000000 in
theorem walk_FnExactPairsOf (x0 : ByteArray) (w : World) (hx0 : x0.size ≤ maxLen) :
    Calls Try.prog 11 #[.string x0] w fun e w' => e = .returned (.bool true) ∧ Below w.heap.size w w' := by
  have hy0 := hx0; unfold maxLen at hy0
  by_cases hbig : x0.size ≤ 1048576
  · go_enter Try.func11, Try.ntmps11
    go_wp2_with fail
    refine (s_PairsOf x0 _ hx0).mono ?_; rintro e w1 ⟨pa, n, ca, rfl, HN, hn, hr1, hb1⟩
    go_wp2_with fail
    refine (i_PairsOf x0 _ hx0).mono ?_; rintro e w2 ⟨pb, n2, cb, rfl, HN2, hn2, hr2, hb2⟩
    obtain rfl : n = n2 := HN.out.symm.trans HN2.out
    have hr12 := hr1.kept hb2
    have s1 := hb1.size
    have hB2 := below_then hb1 hb2
    have sB2 := hb2.size
    clear hb2 hr1
    go_wp2_with fail
    refine (l_eqPairS pb pa n cb ca _ _ _ _ _ _ hn hr2 hr12).mono ?_; rintro e w3 ⟨rfl, hb3⟩
    have hr13 := hr12.kept hb3
    have hr23 := hr2.kept hb3
    have hB3 := below_then hB2 hb3
    have sB3 := hb3.size
    clear hb3 hr12 hr2
    go_wp2_with fail
    refine (l_markPairS pb n cb _ _ _ _ hn hr23).mono ?_; rintro e w4 ⟨rfl, ho4, hr24⟩
    have hr14 := ho4.row hr13 (.inl (Nat.le_refl _))
    have hB4 := hB3.trans (ho4.below w.heap.size s1 (by omega))
    clear ho4 hr13 hr23
    go_wp2_with fail
    refine (l_heldPairS pb n cb _ _ _ hn hr24).mono ?_; rintro e w5 ⟨rfl, hb5⟩
    have hr15 := hr14.kept hb5
    have hr25 := hr24.kept hb5
    have hB5 := below_then hB4 hb5
    clear hb5 hr14 hr24
    go_wp2_with fail
    refine (i_PairsOf x0 _ hx0).mono ?_; rintro e w6 ⟨pc, n3, cc, rfl, HN3, hn3, hr6, hb6⟩
    obtain rfl : n = n3 := HN.out.symm.trans HN3.out
    have hr16 := hr15.kept hb6
    have hr26 := hr25.kept hb6
    have hB6 := below_then hB5 hb6
    clear hb6 hr15 hr25
    go_wp2_with fail
    refine (l_eqPairS pc pa n cc ca _ _ _ _ _ _ hn hr6 hr16).mono ?_; rintro e w7 ⟨rfl, hb7⟩
    have hr27 := hr26.kept hb7
    have hB7 := below_then hB6 hb7
    clear hb7 hr26 hr16 hr6
    go_wp2_with fail
    refine (l_heldPairS pb n cb _ _ _ hn hr27).mono ?_; rintro e w8 ⟨rfl, hb8⟩
    go_wp2
    go_ret
    exact ⟨rfl, below_then hB7 hb8⟩
  · go_enter Try.func11, Try.ntmps11
    go_wp2_with fail
    all_goals first | (go_ret; exact ⟨rfl, Below.refl _ _⟩) | (exfalso; apply hbig; omega)
end Go.Proofs.Ytkgdifngijeenaa
