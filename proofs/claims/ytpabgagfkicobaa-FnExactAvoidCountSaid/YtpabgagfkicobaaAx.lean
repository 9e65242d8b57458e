/- AvoidCount: both functions and the walk of the law FnExactAvoidCount. -/
import Derived.Test.YtpabgagfkicobaaAw
namespace Go.Proofs.Ytpabgagfkicobaa
open Go.RowKit
set_option linter.unusedVariables false
theorem avoidN_no1 {n k : Int} {xs : List ByteArray} (h : (decide (0 ≤ n) && decide (n ≤ 6)) = false) : avoidN n k xs = -1 := by unfold avoidN; rw [h]; rfl
theorem avoidN_no2 {n k : Int} {xs : List ByteArray} (h : (decide (1 ≤ k) && decide (k ≤ 4)) = false) : avoidN n k xs = -1 := by unfold avoidN; rw [h]; simp
theorem avoidN_no3 {n k : Int} {xs : List ByteArray} (h : wsOk xs = false) : avoidN n k xs = -1 := by unfold avoidN; rw [h]; simp
theorem avoidN_yes {n k : Nat} {xs : List ByteArray} (h1 : n ≤ 6) (h2 : 1 ≤ k) (h3 : k ≤ 4) (h : wsOk xs = true) : avoidN n k xs = (cntA xs k n [] : Nat) := by
  unfold avoidN
  rw [h, inR_yes (by omega) (by omega), inR_yes (by omega) (by omega)]; rfl
theorem and_range {a b n : Int} (h : (decide (a ≤ n) && decide (n ≤ b)) = true) : a ≤ n ∧ n ≤ b := by
  rw [Bool.and_eq_true, decide_eq_true_eq, decide_eq_true_eq] at h; exact h
set_option maxHeartbeats 1000000 in
theorem s_AvoidCount (n k : Int) (pa : Option Addr) (m ca : Nat) (xs : List ByteArray) (lo hi : Nat) (w : World) (hl : xs.length = m) (hm : m ≤ 1048576) (hsz : ∀ i : Nat, (wAt xs i).size ≤ 1048576) (hsx : ∀ x ∈ xs, x.size ≤ maxLen) (hr : RowF w lo hi pa m (strF xs)) :
    Calls Try.prog 15 #[.int .i64 n, .int .i64 k, .slice pa m ca] w fun e w' => e = .returned (.int .i64 (avoidN n k xs)) ∧ Below w.heap.size w w' := by
  have HL := Lib.hid hl; have HS := Lib.hid hsz; have HX := Lib.hid hsx; clear hl hsz hsx
  cases hd1 : (decide (0 ≤ n) && decide (n ≤ 6)) with
  | false =>
    rw [avoidN_no1 hd1]
    go_enter Try.func15, Try.ntmps15
    go_wp2_with (first | (go_at_call 32; refine (s_inR (n := n) (lo := 0) (hi := 6) _ hd1).mono ?_; rintro e w' ⟨rfl, rfl⟩))
    go_ret
    exact ⟨rfl, Below.refl _ _⟩
  | true =>
    obtain ⟨n1, n2⟩ := and_range hd1
    obtain ⟨N, rfl⟩ := Int.eq_ofNat_of_zero_le n1
    cases hd2 : (decide (1 ≤ k) && decide (k ≤ 4)) with
    | false =>
      rw [avoidN_no2 hd2]
      have D1 := Lib.hid hd1; have D2 := Lib.hid hd2
      clear hd1 hd2
      go_enter Try.func15, Try.ntmps15
      go_wp2_with fail
      refine (s_inR (n := (N : Int)) (lo := 0) (hi := 6) _ D1.out).mono ?_; rintro e w' ⟨rfl, rfl⟩
      go_wp2_with fail
      refine (s_inR (n := k) (lo := 1) (hi := 4) _ D2.out).mono ?_; rintro e w' ⟨rfl, rfl⟩
      go_wp2_with fail
      go_ret
      exact ⟨rfl, Below.refl _ _⟩
    | true =>
      obtain ⟨k1, k2⟩ := and_range hd2
      obtain ⟨K, rfl⟩ := Int.eq_ofNat_of_zero_le (show 0 ≤ k by omega)
      have D1 := Lib.hid hd1; have D2 := Lib.hid hd2
      clear hd1 hd2
      go_enter Try.func15, Try.ntmps15
      go_wp2_with fail
      refine (s_inR (n := (N : Int)) (lo := 0) (hi := 6) _ D1.out).mono ?_; rintro e w' ⟨rfl, rfl⟩
      go_wp2_with fail
      refine (s_inR (n := (K : Int)) (lo := 1) (hi := 4) _ D2.out).mono ?_; rintro e w' ⟨rfl, rfl⟩
      go_wp2_with fail
      refine (s_validWords pa m ca xs lo hi _ HL.out hm HX.out hr).mono ?_; rintro e w2 ⟨rfl, hst⟩
      cases hw : wsOk xs with
      | false =>
        have HN := Lib.hid (avoidN_no3 (n := (N : Int)) (k := (K : Int)) hw)
        go_wp2_with fail
        go_ret
        exact ⟨by rw [HN.out]; rfl, hst.1⟩
      | true =>
        have HN := Lib.hid (avoidN_yes (n := N) (k := K) (xs := xs) (by omega) (by omega) (by omega) hw)
        have hr2 := Lib.hid (hr.kept hst.1)
        go_wp2_with fail
        refine (s_avoidFrom pa m ca xs lo hi N K _ HL.out hm HS.out hr2.out (by omega) (by omega) N ⟨#[]⟩ (by show 0 + N = N; omega)).mono ?_; rintro e w3 ⟨rfl, rfl⟩
        go_wp2
        go_ret
        exact ⟨by rw [HN.out]; rfl, hst.1⟩
set_option maxHeartbeats 2000000 in
theorem i_AvoidCount (n k : Int) (pa : Option Addr) (m ca : Nat) (xs : List ByteArray) (lo hi : Nat) (w : World) (hl : xs.length = m) (hm : m ≤ 1048576) (hsz : ∀ i : Nat, (wAt xs i).size ≤ 1048576) (hsx : ∀ x ∈ xs, x.size ≤ maxLen) (hr : RowF w lo hi pa m (strF xs)) :
    Calls Try.prog 16 #[.int .i64 n, .int .i64 k, .slice pa m ca] w fun e w' => e = .returned (.int .i64 (avoidN n k xs)) ∧ Below w.heap.size w w' := by
  have HL := Lib.hid hl; have HS := Lib.hid hsz; have HX := Lib.hid hsx; clear hl hsz hsx
  obtain ⟨wa, hwa⟩ : ∃ wa, wa = ((w.alloc (.cells #[.int .i64 n] 3)).alloc (.cells #[.int .i64 k] 3)).alloc (.cells #[.slice pa m ca] 22) := ⟨_, rfl⟩
  have hb0 : Below w.heap.size w wa := by
    rw [hwa]; exact (((Below.refl _ w).alloc (Nat.le_refl _) _).alloc (by simp) _).alloc (by simp; omega) _
  have hr0 := hr.kept hb0
  cases hd1 : (decide (0 ≤ n) && decide (n ≤ 6)) with
  | false =>
    rw [avoidN_no1 hd1]
    have D1 := Lib.hid hd1; clear hd1
    rw [hwa] at hb0
    have HB0 := Lib.hid hb0
    clear hwa hb0 hr0
    go_enter Try.func16, Try.ntmps16
    go_wp2_with fail
    refine (i_inR (n := n) (lo := 0) (hi := 6) _ D1.out).mono ?_; rintro e w' ⟨rfl, rfl⟩
    go_wp2_with fail
    go_ret
    exact ⟨rfl, HB0.out⟩
  | true =>
    obtain ⟨n1, n2⟩ := and_range hd1
    obtain ⟨N, rfl⟩ := Int.eq_ofNat_of_zero_le n1
    cases hd2 : (decide (1 ≤ k) && decide (k ≤ 4)) with
    | false =>
      rw [avoidN_no2 hd2]
      have D1 := Lib.hid hd1; have D2 := Lib.hid hd2
      rw [hwa] at hb0
      have HB0 := Lib.hid hb0
      clear hd1 hd2 hwa hb0 hr0
      go_enter Try.func16, Try.ntmps16
      go_wp2_with fail
      refine (i_inR (n := (N : Int)) (lo := 0) (hi := 6) _ D1.out).mono ?_; rintro e w' ⟨rfl, rfl⟩
      go_wp2_with fail
      refine (i_inR (n := k) (lo := 1) (hi := 4) _ D2.out).mono ?_; rintro e w' ⟨rfl, rfl⟩
      go_wp2_with fail
      go_ret
      exact ⟨rfl, HB0.out⟩
    | true =>
      obtain ⟨k1, k2⟩ := and_range hd2
      obtain ⟨K, rfl⟩ := Int.eq_ofNat_of_zero_le (show 0 ≤ k by omega)
      have D1 := Lib.hid hd1; have D2 := Lib.hid hd2
      rw [hwa] at hb0 hr0
      have HB0 := Lib.hid hb0
      have HR0 := Lib.hid hr0
      clear hd1 hd2 hwa hb0 hr0 wa
      go_enter Try.func16, Try.ntmps16
      go_wp2_with fail
      refine (i_inR (n := (N : Int)) (lo := 0) (hi := 6) _ D1.out).mono ?_; rintro e w' ⟨rfl, rfl⟩
      go_wp2_with fail
      refine (i_inR (n := (K : Int)) (lo := 1) (hi := 4) _ D2.out).mono ?_; rintro e w' ⟨rfl, rfl⟩
      go_wp2_with fail
      refine (i_wordsOk pa m ca xs lo hi _ HL.out hm HX.out HR0.out).mono ?_; rintro e w2 ⟨rfl, hb2⟩
      have HB2 := Lib.hid (below_then HB0.out hb2)
      cases hw : wsOk xs with
      | false =>
        have HN := Lib.hid (avoidN_no3 (n := (N : Int)) (k := (K : Int)) hw)
        go_wp2_with fail
        go_ret
        exact ⟨by rw [HN.out]; rfl, HB2.out⟩
      | true =>
        have HN := Lib.hid (avoidN_yes (n := N) (k := K) (xs := xs) (by omega) (by omega) (by omega) hw)
        have HGN := Lib.hid (avB_nil hw)
        have hr2 := HR0.out.kept hb2
        have hs2 := hb2.size
        rw [World.size_alloc, World.size_alloc, World.size_alloc] at hs2
        have q1 : w2.cell? ⟨w.heap.size, 0, none⟩ = some (.int .i64 N) := (hb2.cell (by simp; omega)).trans (((World.cell?_alloc_lt _ _ ⟨w.heap.size, 0, none⟩ (by simp; omega)).trans (World.cell?_alloc_lt _ _ ⟨w.heap.size, 0, none⟩ (by simp))).trans (cell_one_new w (.int .i64 N) 3 0 _ rfl))
        have q2 : w2.cell? ⟨w.heap.size + 1, 0, none⟩ = some (.int .i64 K) := (hb2.cell (by simp)).trans ((World.cell?_alloc_lt _ _ ⟨w.heap.size + 1, 0, none⟩ (by simp)).trans (by have := cell_one_new (w.alloc (.cells #[.int .i64 N] 3)) (.int .i64 K) 3 0 _ rfl; rw [World.size_alloc] at this; exact this))
        have q3 : w2.cell? ⟨w.heap.size + 1 + 1, 0, none⟩ = some (.slice pa m ca) := (hb2.cell (by simp)).trans (by have := cell_one_new ((w.alloc (.cells #[.int .i64 N] 3)).alloc (.cells #[.int .i64 K] 3)) (.slice pa m ca) 22 0 _ rfl; rw [World.size_alloc, World.size_alloc] at this; exact this)
        have HQ := Lib.hid (And.intro q1 (And.intro q2 q3))
        have HR2 := Lib.hid hr2
        clear hr2 hb2 q1 q2 q3 hw
        go_wp2_with fail
        have hb3 : Below w2.heap.size w2 (w2.alloc (.cells #[cntV (w.heap.size + 1 + 1) w.heap.size (w.heap.size + 1) w2.heap.size] 42)) := (Below.refl _ _).alloc (Nat.le_refl _) _
        refine (i_count (w.heap.size + 1 + 1) w.heap.size (w.heap.size + 1) w2.heap.size pa m ca xs lo hi N K HL.out hm HS.out (by omega) (by omega) N ⟨#[]⟩ _ (by show 0 + N = N; omega) HGN.out (HR2.out.kept hb3)
          ⟨(hb3.cell (p := ⟨w.heap.size + 1 + 1, 0, none⟩) (cell_lt HQ.out.2.2)).trans HQ.out.2.2, (hb3.cell (p := ⟨w.heap.size, 0, none⟩) (cell_lt HQ.out.1)).trans HQ.out.1, (hb3.cell (p := ⟨w.heap.size + 1, 0, none⟩) (cell_lt HQ.out.2.1)).trans HQ.out.2.1, cell_one_new w2 _ _ 0 _ rfl⟩).mono ?_
        rintro e w4 ⟨rfl, hb4⟩
        have HB4 := Lib.hid (below_then (below_then HB2.out hb3) hb4)
        clear hb3 hb4
        go_wp2
        go_ret
        exact ⟨by rw [HN.out]; rfl, HB4.out⟩
set_option maxHeartbeats 1000000 in
theorem walk_FnExactAvoidCount (x0 x1 : Int) (pa : Option Addr) (n cap : Nat) (w : World) (wx0 : (Lit.int .i64 x0).wf = true) (wx1 : (Lit.int .i64 x1).wf = true) (hx : StrsAt w pa n cap) :
    Calls Try.prog 4 #[.int .i64 x0, .int .i64 x1, .slice pa n cap] w fun e w' => e = .returned (.bool true) ∧ Below w.heap.size w w' := by
  clear wx0 wx1
  obtain ⟨xs, hx⟩ := hx
  have HX := Lib.hid hx; clear hx
  go_enter Try.func4, Try.ntmps4
  go_wp2_with fail
  refine (l_szStringS pa n cap xs _ HX.out).mono ?_; rintro e w1 ⟨r, rfl, HR, hr0, hr1, hb1⟩
  by_cases hneg : r < 0
  · go_wp2
    go_ret
    exact ⟨rfl, hb1⟩
  · have hsz := HR.out (by omega)
    have hn : n ≤ 1048576 := by rw [← HX.out.1]; exact hsz.1
    have HS : Hid (∀ i : Nat, (wAt xs i).size ≤ 1048576) := Lib.hid (fun i => by
      unfold wAt
      by_cases hi : i < xs.length
      · exact hsz.2 i hi
      · rw [List.getElem?_eq_none (by omega)]; exact Nat.zero_le _)
    have HSX : Hid (∀ x ∈ xs, x.size ≤ maxLen) := Lib.hid HX.out.2.2.2.1
    clear hsz
    have HX1 := Lib.hid (HX.out.kept hb1)
    obtain ⟨o, ho⟩ : ∃ o, o = avoidN x0 x1 xs := ⟨_, rfl⟩
    have HO := Lib.hid ho; clear ho
    go_wp2_with fail
    refine (l_toStringS pa n cap xs _ HX1.out hn).mono ?_; rintro e w2 ⟨p2, m2, c2, rfl, HN2, hnc2, hcm2, hr2, hb2⟩
    obtain rfl : m2 = n := HN2.out.symm.trans HX.out.1
    have HX2 := Lib.hid (HX1.out.kept hb2)
    have hB2 := below_then hb1 hb2
    clear hb1 hb2
    go_wp2_with fail
    refine (s_AvoidCount x0 x1 p2 m2 c2 xs _ _ _ HN2.out hn HS.out HSX.out hr2).mono ?_; rintro e w3 ⟨rfl, hb3⟩
    rw [← HO.out]
    have HX3 := Lib.hid (HX2.out.kept hb3)
    have hB3 := below_then hB2 hb3
    clear hB2 hb3 hr2
    go_wp2_with fail
    refine (l_toStringS pa m2 cap xs _ HX3.out hn).mono ?_; rintro e w4 ⟨p4, m4, c4, rfl, HN4, hnc4, hcm4, hr4, hb4⟩
    obtain rfl : m4 = m2 := HN4.out.symm.trans HX.out.1
    have HX4 := Lib.hid (HX3.out.kept hb4)
    have hB4 := below_then hB3 hb4
    clear hB3 hb4
    go_wp2_with fail
    refine (i_AvoidCount x0 x1 p4 m4 c4 xs _ _ _ HN4.out hn HS.out HSX.out hr4).mono ?_; rintro e w5 ⟨rfl, hb5⟩
    rw [← HO.out]
    have HX5 := Lib.hid (HX4.out.kept hb5)
    have hr5 := hr4.kept hb5
    have hB5 := below_then hB4 hb5
    clear hB4 hb5 hr4
    go_wp2_with fail
    refine (l_toStringS pa m4 cap xs _ HX5.out hn).mono ?_; rintro e w6 ⟨p6, m6, c6, rfl, HN6, hnc6, hcm6, hr6, hb6⟩
    obtain rfl : m6 = m4 := HN6.out.symm.trans HX.out.1
    have hr56 := hr5.kept hb6
    have hB6 := below_then hB5 hb6
    clear hB5 hb6 hr5
    go_wp2_with fail
    refine (l_eqStringS p4 p6 m6 c4 c6 xs _ _ _ _ _ hn hr56 hr6).mono ?_; rintro e w7 ⟨rfl, hb7⟩
    go_wp2
    go_ret
    exact ⟨rfl, below_then hB6 hb7⟩
end Go.Proofs.Ytpabgagfkicobaa
