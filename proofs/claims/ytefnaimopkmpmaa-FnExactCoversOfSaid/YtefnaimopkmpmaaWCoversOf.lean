/- Walk of the law FnExactCoversOf, out of the contracts of the reference's and the program's function. -/
import Derived.Test.YtefnaimopkmpmaaCo
namespace Go.Proofs.Ytefnaimopkmpmaa
open Go.RowKit
set_option linter.unusedVariables false

set_option maxHeartbeats 1000000 in
theorem walk_FnExactCoversOf (x0 : ByteArray) (w : World) (hx0 : x0.size ≤ maxLen) :
    Calls Try.prog 13 #[.string x0] w fun e w' => e = .returned (.bool true) ∧ Below w.heap.size w w' := by
  have hy0 := hx0; unfold maxLen at hy0
  by_cases hbig : x0.size ≤ 1048576
  · have hb0 := hbig
    go_enter Try.func13, Try.ntmps13
    go_wp2_with fail
    refine (s_CoversOf x0 _ hx0).mono ?_; rintro e w1 ⟨pa, n, ca, rfl, HN, hle, hr1, hb1⟩
    go_wp2_with fail
    refine (i_CoversOf x0 _ hx0).mono ?_; rintro e w2 ⟨pb, n2, cb, rfl, HN2, hle2, hr2, hb2⟩
    obtain rfl : n = n2 := HN.out.symm.trans HN2.out
    have hr1' := hr1.kept hb2
    go_wp2_with fail
    refine (l_eqIntS pb pa n cb ca _ _ _ _ _ _ HN.out hle hr2 hr1').mono ?_; rintro e w3 ⟨rfl, hb3⟩
    have hr1'' := hr1'.kept hb3
    have hr2' := hr2.kept hb3
    have s1 := hb1.size; have s2 := hb2.size; have s3 := hb3.size
    go_wp2_with fail
    refine (l_markIntS pb n cb _ _ _ _ HN.out hle hr2' (by omega)).mono ?_; rintro e w4 ⟨rfl, hb4, hr4, hz4⟩
    have hr14 := hr1''.below hb4 (Nat.le_refl _)
    go_wp2_with fail
    refine (l_heldIntS pb n cb _ _ _ hle hr4).mono ?_; rintro e w5 ⟨rfl, rfl⟩
    go_wp2_with fail
    refine (i_CoversOf x0 _ hx0).mono ?_; rintro e w6 ⟨pc, n3, cc, rfl, HN3, hle3, hr6, hb6⟩
    obtain rfl : n = n3 := HN.out.symm.trans HN3.out
    have hr16 := hr14.kept hb6
    have hr46 := hr4.kept hb6
    go_wp2_with fail
    refine (l_eqIntS pc pa n cc ca _ _ _ _ _ _ HN.out hle hr6 hr16).mono ?_; rintro e w7 ⟨rfl, hb7⟩
    have hr47 := hr46.kept hb7
    have s6 := hb6.size
    go_wp2_with fail
    refine (l_heldIntS pb n cb _ _ _ hle hr47).mono ?_; rintro e w8 ⟨rfl, rfl⟩
    go_wp2
    go_ret
    exact ⟨rfl, (((((hb1.trans (hb2.mono (by omega))).trans (hb3.mono (by omega))).trans (hb4.mono (by omega))).trans (hb6.mono (by omega))).trans (hb7.mono (by omega)))⟩
  · go_enter Try.func13, Try.ntmps13
    go_wp2_with fail
    all_goals first | (go_ret; exact ⟨rfl, Below.refl _ _⟩) | (exfalso; apply hbig; omega)
end Go.Proofs.Ytefnaimopkmpmaa
