/- Walk of the law FnMixTwo over drawn texts. -/
import Derived.Test.YtokpcdclaifkpaaWt9
namespace Go.Proofs.Ytokpcdclaifkpaa
open Go.RowKit
set_option linter.unusedVariables false
set_option maxHeartbeats 2000000 in
theorem walk_FnMixTwo (pa : Option Addr) (n cap : Nat) (w : World) (hx : CodeAt w pa n cap) :
    Calls Try.prog 13 #[.slice pa n cap] w fun e w' => e = .returned (.bool true) ∧ Below w.heap.size w w' := by
  have hcap := hx.2.1; have hnc := hx.1
  unfold maxLen at hcap
  have HC := Lib.hid hx; clear hx
  by_cases hn : n ≤ 1048576
  · go_enter Try.func13, Try.ntmps13
    go_wp2_with fail
    refine (d_DrawMixTwo _ _ _ _ HC.out).mono ?_; rintro e w1 ⟨s, t, rfl, hs, ht, hb1⟩
    have HS := Lib.hid (size41 hs)
    have HT := Lib.hid (size41 ht)
    obtain ⟨o, ho⟩ : ∃ o, o = mixB s t := ⟨_, rfl⟩
    obtain ⟨y, hy⟩ : ∃ y, y = mixOk s t := ⟨_, rfl⟩
    have HO := Lib.hid ho; have HY := Lib.hid hy
    clear ho hy
    go_wp2_with fail
    refine (i_MixTwo s t _ HS.out HT.out).mono ?_; rintro e w2 ⟨rfl, hb2⟩
    rw [← HO.out, ← HY.out]
    have hB2 := below_then hb1 hb2; clear hb1 hb2
    go_wp2_with fail
    refine (s_MixTwo s t _ HS.out HT.out).mono ?_; rintro e w3 ⟨rfl, hb3⟩
    rw [← HO.out, ← HY.out]
    have hB3 := below_then hB2 hb3; clear hB2 hb3
    cases y with
    | false =>
      go_wp2
      go_ret
      exact ⟨rfl, hB3⟩
    | true =>
      have hok := HY.out.symm
      have hsz := mixB_size hok
      rw [← HO.out] at hsz
      obtain ⟨hz1, hz2⟩ := hsz
      have HA : Hid (isRowB o s = true) := Lib.hid (by rw [HO.out]; exact mixB_rowA hok)
      have HB : Hid (isRowB o t = true) := Lib.hid (by rw [HO.out]; exact mixB_rowB hok)
      have HM : Hid (mixB t s = o) := Lib.hid (by rw [HO.out]; exact mixB_comm s t)
      have HK : Hid (mixOk t s = true) := Lib.hid ((mixOk_comm s t).trans hok)
      have HOM : Hid (o.size ≤ maxLen) := Lib.hid (by unfold maxLen; omega)
      obtain ⟨c, hc⟩ : ∃ c, c = commonI s t := ⟨_, rfl⟩
      rw [← hc] at hz2
      have HCC := Lib.hid hc
      have hz3 : ((o.size : Int) == (s.size : Int) + t.size - c) = true := by rw [beq_iff_eq]; exact hz2
      have hc1 : c ≤ 100 := by omega
      have hc2 : -100 ≤ c := by omega
      have HZ := Lib.hid hz2
      clear hc hok hz2
      go_wp2_with fail
      refine (i_MixTwo t s _ HT.out HS.out).mono ?_; rintro e w4 ⟨rfl, hb4⟩
      rw [HM.out, HK.out]
      have hB4 := below_then hB3 hb4; clear hB3 hb4
      go_wp2_with fail
      refine (i_IsRow o s _ HOM.out HS.out).mono ?_; rintro e w5 ⟨rfl, hb5⟩
      rw [HA.out]
      have hB5 := below_then hB4 hb5; clear hB4 hb5
      go_wp2_with fail
      refine (i_IsRow o t _ HOM.out HT.out).mono ?_; rintro e w6 ⟨rfl, hb6⟩
      rw [HB.out]
      have hB6 := below_then hB5 hb6; clear hB5 hb6
      go_wp2_with fail
      refine (i_CommonRow s t _ HS.out HT.out).mono ?_; rintro e w7 ⟨rfl, hb7⟩
      rw [← HCC.out]
      have hB7 := below_then hB6 hb7; clear hB6 hb7
      go_wp2
      go_ret
      exact ⟨ret_bool (by first | rfl | simp), hB7⟩
  · go_enter Try.func13, Try.ntmps13
    go_wp2
    go_ret
    exact ⟨rfl, Below.refl _ _⟩
end Go.Proofs.Ytokpcdclaifkpaa
