/- Walk of the law FnUnpairText over drawn pairs: a text of pairs has pairs that are read back. -/
import Derived.Test.YtkgdifngijeenaaDu
namespace Go.Proofs.Ytkgdifngijeenaa
open Go.RowKit
set_option linter.unusedVariables false

theorem upA_back {ps : List PrP} {t : List UInt8} (h : upA ps = some t) : upA (prI (ofL t)) = some t := by
  have hv : vt (ofL t).data.toList = true := by rw [ofL_data]; exact upA_vt h
  rw [prI_yes hv, upA_pairs hv, ofL_data]
theorem upA_size {ps : List PrP} {t : List UInt8} (h : upA ps = some t) : (ofL t).size ≤ 40 := by
  have hv := upA_vt h
  unfold vt at hv
  rw [Bool.and_eq_true, decide_eq_true_eq] at hv
  rw [ofL_size]; exact hv.2
set_option maxHeartbeats 2000000 in
theorem walk_FnUnpairText (pa : Option Addr) (n cap : Nat) (w : World) (hx : CodeAt w pa n cap) :
    Calls Try.prog 13 #[.slice pa n cap] w fun e w' => e = .returned (.bool true) ∧ Below w.heap.size w w' := by
  have hcap := hx.2.1; have hnc := hx.1
  unfold maxLen at hcap
  have HC := Lib.hid hx; clear hx
  by_cases hn : n ≤ 1048576
  · go_enter Try.func13, Try.ntmps13
    go_wp2_with fail
    refine (d_DrawUnpairText _ _ _ _ HC.out).mono ?_; rintro e w1 ⟨p1, m, c1, ps, rfl, HN, hm, HS, hr1, hb1⟩
    obtain ⟨o, ho⟩ : ∃ o, o = upA ps := ⟨_, rfl⟩
    have HO := Lib.hid ho; clear ho
    go_wp2_with fail
    refine (i_UnpairText p1 m c1 ps _ _ _ HN.out hm HS.out hr1).mono ?_; rintro e w2 ⟨rfl, hb2⟩
    rw [← HO.out]
    have hr2 := hr1.kept hb2
    have hB2 := below_then hb1 hb2
    clear hr1 hb1 hb2
    go_wp2_with fail
    refine (s_UnpairText p1 m c1 ps _ _ _ HN.out hm HS.out hr2).mono ?_; rintro e w3 ⟨rfl, hb3⟩
    rw [← HO.out]
    have hB3 := below_then hB2 hb3
    clear hr2 hB2 hb3
    cases o with
    | none =>
      simp only [Option.getD_none, Option.isSome_none]
      go_wp2
      go_ret
      exact ⟨rfl, hB3⟩
    | some t =>
      have hU := upA_back HO.out.symm
      have hz := upA_size HO.out.symm
      simp only [Option.getD_some, Option.isSome_some]
      obtain ⟨u, hu⟩ : ∃ u, u = ofL t := ⟨_, rfl⟩
      rw [← hu] at hU hz ⊢
      have HU := Lib.hid hU; have HT := Lib.hid hu
      clear hU hu
      have hsm : u.size ≤ maxLen := by unfold maxLen; omega
      go_wp2_with fail
      refine (i_PairsOf u _ hsm).mono ?_; rintro e w4 ⟨p4, m4, c4, rfl, HN4, hm4, hr4, hb4⟩
      have hB4 := below_then hB3 hb4
      have HS4 := Lib.hid (prI_sizes (s := u) (by omega))
      clear hB3 hb4
      go_wp2_with fail
      refine (i_UnpairText p4 m4 c4 (prI u) _ _ _ HN4.out hm4 HS4.out hr4).mono ?_; rintro e w5 ⟨rfl, hb5⟩
      rw [HU.out]
      simp only [Option.getD_some, Option.isSome_some]
      rw [← HT.out]
      go_wp2
      go_ret
      exact ⟨rfl, below_then hB4 hb5⟩
  · go_enter Try.func13, Try.ntmps13
    go_wp2_with fail
    all_goals first | (go_ret; exact ⟨rfl, Below.refl _ _⟩) | (exfalso; apply hn; omega)
end Go.Proofs.Ytkgdifngijeenaa
