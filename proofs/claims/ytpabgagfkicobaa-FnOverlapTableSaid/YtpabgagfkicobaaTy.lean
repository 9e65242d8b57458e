/- The walk of the law FnExactOverlapTable. -/
import Derived.Test.YtpabgagfkicobaaTx
namespace Go.Proofs.Ytpabgagfkicobaa
open Go.RowKit
set_option linter.unusedVariables false
theorem tbN_le (xs : List ByteArray) : tbN xs ≤ 6 := by
  unfold tbN; split
  · rename_i h
    unfold wsOk at h; rw [Bool.and_eq_true, decide_eq_true_eq] at h; exact h.2
  · exact Nat.zero_le _
set_option maxHeartbeats 2000000 in
theorem walk_FnExactOverlapTable (pa : Option Addr) (n cap : Nat) (w : World) (hx : StrsAt w pa n cap) (hm : MaxAt w) :
    Calls Try.prog 5 #[.slice pa n cap] w fun e w' => e = .returned (.bool true) ∧ Below w.heap.size w w' := by
  obtain ⟨xs, hx⟩ := hx
  have HX := Lib.hid hx; clear hx
  have HM := Lib.hid hm; clear hm
  go_enter Try.func5, Try.ntmps5
  go_wp2_with fail
  refine (l_szStringS pa n cap xs _ HX.out).mono ?_; rintro e w1 ⟨r, rfl, HR, hr0, hr1, hb1⟩
  by_cases hneg : r < 0
  · go_wp2
    go_ret
    exact ⟨rfl, hb1⟩
  · have hsz := HR.out (by omega)
    have hn : n ≤ 1048576 := by rw [← HX.out.1]; exact hsz.1
    have HS : Hid (∀ i : Nat, (wAt xs i).size ≤ 1048576) := Lib.hid (fun i => by
      unfold wAt
      by_cases hi : i < xs.length
      · exact hsz.2 i hi
      · rw [List.getElem?_eq_none (by omega)]; exact Nat.zero_le _)
    have HSX : Hid (∀ x ∈ xs, x.size ≤ maxLen) := Lib.hid HX.out.2.2.2.1
    have hN6 := tbN_le xs
    clear hsz
    have HX1 := Lib.hid (HX.out.kept hb1)
    have HM1 := Lib.hid (HM.out.kept hb1)
    obtain ⟨N, hN⟩ : ∃ N, N = tbN xs := ⟨_, rfl⟩
    rw [← hN] at hN6
    have hNN : N * N ≤ 1000 := by have := Nat.mul_le_mul hN6 hN6; omega
    have HNN := Lib.hid hNN
    have HO := Lib.hid hN; clear hN hNN
    obtain ⟨T, hT⟩ : ∃ T, T = ovT xs := ⟨_, rfl⟩
    have HT := Lib.hid hT; clear hT
    go_wp2_with fail
    refine (l_toStringS pa n cap xs _ HX1.out hn).mono ?_; rintro e w2 ⟨p2, m2, c2, rfl, HN2, hnc2, hcm2, hr2, hb2⟩
    obtain rfl : m2 = n := HN2.out.symm.trans HX.out.1
    have HX2 := Lib.hid (HX1.out.kept hb2)
    have HM2 := Lib.hid (HM1.out.kept hb2)
    have hB2 := below_then hb1 hb2
    clear hb1 hb2
    go_wp2_with fail
    refine (s_OverlapTable p2 m2 c2 xs _ _ _ HN2.out hn HS.out HSX.out (Nat.le_refl _) hr2).mono ?_
    rw [← HO.out, ← HT.out]
    rintro e w3 ⟨p3, c3, q3, rfl, hr3, hb3⟩
    have hn3 : N ≤ 1048576 := by omega
    have HX3 := Lib.hid (HX2.out.kept hb3)
    have HM3 := Lib.hid (HM2.out.kept hb3)
    have hB3 := below_then hB2 hb3
    have s03 := hB3.size
    clear hB2 hr2 hb3
    go_wp2_with fail
    refine (l_toStringS pa m2 cap xs _ HX3.out hn).mono ?_; rintro e w4 ⟨p4, m4, c4, rfl, HN4, hnc4, hcm4, hr4, hb4⟩
    obtain rfl : m4 = m2 := HN4.out.symm.trans HX.out.1
    have HX4 := Lib.hid (HX3.out.kept hb4)
    have HM4 := Lib.hid (HM3.out.kept hb4)
    have hr34 := hr3.kept hb4
    have s34 := hb4.size
    have hB4 := below_then hB3 hb4
    clear hB3 hb4 hr3
    go_wp2_with fail
    refine (i_OverlapTable p4 m4 c4 xs _ _ _ HN4.out hn HS.out HSX.out (Nat.le_refl _) hr4).mono ?_
    rw [← HO.out, ← HT.out]
    rintro e w5 ⟨p5, c5, q5, rfl, hr5, hb5⟩
    have HX5 := Lib.hid (HX4.out.kept hb5)
    have HM5 := Lib.hid (HM4.out.kept hb5)
    have hr35 := hr34.kept hb5
    have hr45 := hr4.kept hb5
    have s45 := hb5.size
    have hB5 := below_then hB4 hb5
    clear hB4 hb5 hr34 hr4
    go_wp2_with fail
    refine (l_eqIntSS p5 p3 N N c5 c3 _ _ _ _ T _ _ _ hn3 hn3 hr5 hr35).mono ?_; rintro e w6 ⟨rfl, hb6⟩
    have HX6 := Lib.hid (HX5.out.kept hb6)
    have HM6 := Lib.hid (HM5.out.kept hb6)
    have hr36 := hr35.kept hb6
    have hr46 := hr45.kept hb6
    have hr56 := hr5.kept hb6
    have s56 := hb6.size
    have hB6 := below_then hB5 hb6
    clear hB5 hb6 hr35 hr45 hr5
    go_wp2_with fail
    refine (l_toStringS pa m4 cap xs _ HX6.out hn).mono ?_; rintro e w7 ⟨p7, m7, c7, rfl, HN7, hnc7, hcm7, hr7, hb7⟩
    obtain rfl : m7 = m4 := HN7.out.symm.trans HX.out.1
    have HX7 := Lib.hid (HX6.out.kept hb7)
    have HM7 := Lib.hid (HM6.out.kept hb7)
    have hr37 := hr36.kept hb7
    have hr47 := hr46.kept hb7
    have hr57 := hr56.kept hb7
    have s67 := hb7.size
    have hB7 := below_then hB6 hb7
    clear hB6 hb7 hr36 hr46 hr56
    go_wp2_with fail
    refine (l_eqStringS p4 p7 m7 c4 c7 xs _ _ _ _ _ hn hr47 hr7).mono ?_; rintro e w8 ⟨rfl, hb8⟩
    have HX8 := Lib.hid (HX7.out.kept hb8)
    have HM8 := Lib.hid (HM7.out.kept hb8)
    have hr38 := hr37.kept hb8
    have hr48 := hr47.kept hb8
    have hr58 := hr57.kept hb8
    have s78 := hb8.size
    have hB8 := below_then hB7 hb8
    clear hB7 hb8 hr37 hr47 hr57 hr7
    have s08 := hB8.size
    go_wp2_with fail
    refine (l_markStringS p4 m7 c4 (strF xs) _ _ _ hn hr48).mono ?_; rintro e w9 ⟨rfl, ho9, _⟩
    have hr39 := ho9.tab hr38 (.inl (Nat.le_refl _))
    have hr59 := ho9.tab hr58 (.inr (Nat.le_refl _))
    have hB9 := hB8.trans (ho9.below w.heap.size s03 s08)
    have HX9 := Lib.hid (HX.out.kept hB9)
    have HM9 := Lib.hid (HM.out.kept hB9)
    clear hB8 ho9 hr38 hr58 hr48
    go_wp2_with fail
    refine (l_eqIntSS p5 p3 N N c5 c3 _ _ _ _ T _ _ _ hn3 hn3 hr59 hr39).mono ?_; rintro e w10 ⟨rfl, hb10⟩
    have HX10 := Lib.hid (HX9.out.kept hb10)
    have HM10 := Lib.hid (HM9.out.kept hb10)
    have hr310 := hr39.kept hb10
    have hr510 := hr59.kept hb10
    have hB10 := below_then hB9 hb10
    have s010 := hB10.size
    clear hB9 hb10 hr39 hr59
    go_wp2_with fail
    refine (l_markIntSS p5 N N c5 _ _ T _ _ (by omega) (by omega) HNN.out hr510).mono ?_; rintro e w11 ⟨rfl, ho11, hr511⟩
    have hr311 := ho11.tab hr310 (.inl s34)
    have hB11 := hB10.trans (ho11.below w.heap.size (by omega) s010)
    have HX11 := Lib.hid (HX.out.kept hB11)
    have HM11 := Lib.hid (HM.out.kept hB11)
    clear hB10 ho11 hr310 hr510
    go_wp2_with fail
    refine (l_heldIntSS p5 N N c5 _ _ _ _ (by omega) (by omega) HNN.out hr511).mono ?_; rintro e w12 ⟨rfl, rfl⟩
    have hb12 := Below.refl w11.heap.size w11
    have HX12 := Lib.hid (HX11.out.kept hb12)
    have HM12 := Lib.hid (HM11.out.kept hb12)
    have hr312 := hr311.kept hb12
    have hr512 := hr511.kept hb12
    have hB12 := below_then hB11 hb12
    clear hB11 hb12 hr311 hr511
    go_wp2_with fail
    refine (l_toStringS pa m7 cap xs _ HX12.out hn).mono ?_; rintro e w13 ⟨p13, m13, c13, rfl, HN13, hnc13, hcm13, hr13, hb13⟩
    obtain rfl : m13 = m7 := HN13.out.symm.trans HX.out.1
    have HX13 := Lib.hid (HX12.out.kept hb13)
    have HM13 := Lib.hid (HM12.out.kept hb13)
    have hr313 := hr312.kept hb13
    have hr513 := hr512.kept hb13
    have hB13 := below_then hB12 hb13
    clear hB12 hb13 hr312 hr512
    go_wp2_with fail
    refine (i_OverlapTable p13 m13 c13 xs _ _ _ HN13.out hn HS.out HSX.out (Nat.le_refl _) hr13).mono ?_
    rw [← HO.out, ← HT.out]
    rintro e w14 ⟨p14, c14, q14, rfl, hr14, hb14⟩
    have hr314 := hr313.kept hb14
    have hr514 := hr513.kept hb14
    have hB14 := below_then hB13 hb14
    clear hB13 hb14 hr313 hr513 hr13
    go_wp2_with fail
    refine (l_eqIntSS p14 p3 N N c14 c3 _ _ _ _ T _ _ _ hn3 hn3 hr14 hr314).mono ?_; rintro e w15 ⟨rfl, hb15⟩
    have hr515 := hr514.kept hb15
    have hB15 := below_then hB14 hb15
    clear hB14 hb15 hr314 hr514 hr14
    go_wp2_with fail
    refine (l_heldIntSS p5 N N c5 _ _ _ _ (by omega) (by omega) HNN.out hr515).mono ?_; rintro e w16 ⟨rfl, rfl⟩
    go_wp2
    go_ret
    exact ⟨rfl, hB15⟩
end Go.Proofs.Ytpabgagfkicobaa
