/- IsSuper: the program's walk and the walk of the law FnExactIsSuper. -/
import Derived.Test.YtpabgagfkicobaaSy
namespace Go.Proofs.Ytpabgagfkicobaa
open Go.RowKit
set_option linter.unusedVariables false
set_option maxHeartbeats 1000000 in
theorem i_superBad (s z : ByteArray) (b : Nat) (w : World) (hs : s.size ≤ 1048576) (hm : MaxAt w) (hc : w.cell? ⟨b, 0, none⟩ = some (.string s)) :
    Calls Try.prog 50 #[.string z, .pointer (some ⟨b, 0, none⟩)] w fun e w' => e = .returned (.bool (!hasB s.data.toList z.data.toList)) ∧ w = w' := by
  go_enter Try.func50, Try.ntmps50
  go_wp2_with fail
  refine (i_Contains s z _ hs hm).mono ?_; rintro e w' ⟨rfl, rfl⟩
  go_wp2
  go_ret
  exact ⟨rfl, rfl⟩
set_option maxHeartbeats 1000000 in
theorem i_indexSuper (s : ByteArray) (bx : Nat) (pa : Option Addr) (n ca : Nat) (xs : List ByteArray) (lo hi : Nat) (w : World) (hs : s.size ≤ 1048576) (hl : xs.length = n) (hn : n ≤ 1048576) (hm : MaxAt w) (hc : w.cell? ⟨bx, 0, none⟩ = some (.string s)) (hr : RowF w lo hi pa n (strF xs)) :
    Calls Try.prog 56 #[.slice pa n ca, .func (.func 50) #[] #[.pointer (some ⟨bx, 0, none⟩)]] w fun e w' => ∃ r : Int, e = .returned (.int .i64 r) ∧ Hid (decide (0 ≤ r) = !allInB s xs) ∧ Below w.heap.size w w' := by
  have HL := Lib.hid hl; have HM := Lib.hid hm; have HC := Lib.hid hc; clear hl hm hc
  go_enter Try.func56, Try.ntmps56
  go_wp2
  go_loopw [5, 8] (fun _ i wr => ∃ k : Nat, k ≤ n ∧ i = .int .i64 k ∧ Hid (∀ i, i < k → hasB s.data.toList (xs[i]?.getD ⟨#[]⟩).data.toList = true) ∧ Below w.heap.size w wr) (fun _ i _ => n - (intOf i).toNat)
  case atStart => exact ⟨0, Nat.zero_le _, rfl, Lib.hid (fun i hi => by omega), Below.refl _ _⟩
  case round =>
    obtain ⟨k, hk, rfl, HK, hb⟩ := hrel
    by_cases hlt : k < n
    · obtain ⟨g, rfl, _, _, c0, _⟩ := (hr.kept hb) k hlt
      unfold strF at c0
      obtain ⟨z, hz⟩ : ∃ z, z = xs[k]?.getD ⟨#[]⟩ := ⟨_, rfl⟩
      rw [← hz] at c0
      have HZ := Lib.hid hz; clear hz
      have e1 : (k : Int) < n := by omega
      have HC2 := Lib.hid ((hb.cell (p := ⟨bx, 0, none⟩) (cell_lt HC.out)).trans HC.out)
      go_wp2_with fail
      refine (i_superBad s z bx _ hs (HM.out.kept hb) HC2.out).mono ?_; rintro e w2 ⟨rfl, rfl⟩
      cases hw : hasB s.data.toList z.data.toList with
      | false =>
        have ha : allInB s xs = false := by
          have hkl : k < xs.length := by rw [HL.out]; exact hlt
          unfold allInB
          rw [List.all_eq_false]
          refine ⟨_, List.getElem_mem hkl, ?_⟩
          have := HZ.out
          rw [List.getElem?_eq_getElem hkl] at this
          rw [← show z = xs[k] from this, hw]; decide
        have HA := Lib.hid ha
        clear ha
        go_wp2
        go_ret
        exact ⟨k, rfl, Lib.hid (by rw [HA.out, decide_eq_true (by omega)]; rfl), hb⟩
      | true =>
        have HW := Lib.hid hw
        go_wp2
        go_roundw
        case rel => exact ⟨k + 1, by omega, by go_num, Lib.hid (fun i hi => by
            by_cases e : i = k
            · subst e; rw [← HZ.out]; exact HW.out
            · exact HK.out i (by omega)), hb⟩
        case measure => simp [intOf]; omega
    · obtain rfl : k = n := by omega
      have ha : allInB s xs = true := by
        unfold allInB
        rw [List.all_eq_true]
        intro x hx
        obtain ⟨i, hi, e⟩ := List.getElem_of_mem hx
        have := HK.out i (by have := HL.out; omega)
        rw [List.getElem?_eq_getElem hi] at this
        rw [← e]; exact this
      have HA := Lib.hid ha; clear ha
      go_wp2
      go_ret
      exact ⟨-1, rfl, Lib.hid (by rw [HA.out]; rfl), hb⟩
set_option maxHeartbeats 1000000 in
theorem i_anyOut (s : ByteArray) (bx : Nat) (pa : Option Addr) (n ca : Nat) (xs : List ByteArray) (lo hi : Nat) (w : World) (hs : s.size ≤ 1048576) (hl : xs.length = n) (hn : n ≤ 1048576) (hm : MaxAt w) (hc : w.cell? ⟨bx, 0, none⟩ = some (.string s)) (hr : RowF w lo hi pa n (strF xs)) :
    Calls Try.prog 36 #[.slice pa n ca, .func (.func 50) #[] #[.pointer (some ⟨bx, 0, none⟩)]] w fun e w' => e = .returned (.bool (!allInB s xs)) ∧ Below w.heap.size w w' := by
  go_enter Try.func36, Try.ntmps36
  go_wp2_with fail
  refine (i_indexSuper s bx pa n ca xs lo hi _ hs hl hn hm hc hr).mono ?_; rintro e w2 ⟨r, rfl, HR, hb⟩
  go_wp2
  go_ret
  exact ⟨by rw [← HR.out]; rfl, hb⟩
set_option maxHeartbeats 1000000 in
theorem i_IsSuper (s : ByteArray) (pa : Option Addr) (n ca : Nat) (xs : List ByteArray) (lo hi : Nat) (w : World) (hs : s.size ≤ 1048576) (hl : xs.length = n) (hn : n ≤ 1048576) (hsx : ∀ x ∈ xs, x.size ≤ maxLen) (hm : MaxAt w) (hr : RowF w lo hi pa n (strF xs)) :
    Calls Try.prog 26 #[.string s, .slice pa n ca] w fun e w' => e = .returned (.bool (superB s xs)) ∧ Below w.heap.size w w' := by
  have HL := Lib.hid hl; have HX := Lib.hid hsx; clear hl hsx
  have hsm : s.size ≤ maxLen := by unfold maxLen; omega
  have hb0 : Below w.heap.size w (w.alloc (.cells #[.string s] 9)) := (Below.refl _ w).alloc (Nat.le_refl _) _
  have hc0 : (w.alloc (.cells #[.string s] 9)).cell? ⟨w.heap.size, 0, none⟩ = some (.string s) := cell_one_new w (.string s) 9 0 (.string s) rfl
  have HC0 := Lib.hid hc0
  have HM0 := Lib.hid (hm.kept hb0)
  have hr0 := hr.kept hb0
  clear hc0 hm hr
  unfold superB
  go_enter Try.func26, Try.ntmps26
  go_wp2_with fail
  refine (i_ValidText s _ hsm).mono ?_; rintro e w1 ⟨rfl, hb1⟩
  have hr1 := hr0.kept hb1
  have hB1 := below_then hb0 hb1
  have HM1 := Lib.hid (HM0.out.kept hb1)
  have HC1 := Lib.hid ((hb1.cell (p := ⟨w.heap.size, 0, none⟩) (cell_lt HC0.out)).trans HC0.out)
  clear hb0 hb1 hr0
  cases hv : vt s.data.toList with
  | false =>
    go_wp2_with fail
    go_ret
    exact ⟨by rw [hv]; rfl, hB1⟩
  | true =>
    go_wp2_with fail
    refine (i_wordsOk pa n ca xs lo hi _ HL.out hn HX.out hr1).mono ?_; rintro e w2 ⟨rfl, hb2⟩
    have hr2 := hr1.kept hb2
    have hB2 := below_then hB1 hb2
    have HM2 := Lib.hid (HM1.out.kept hb2)
    have HC2 := Lib.hid ((hb2.cell (p := ⟨w.heap.size, 0, none⟩) (cell_lt HC1.out)).trans HC1.out)
    clear hB1 hb2 hr1
    cases hw : wsOk xs with
    | false =>
      go_wp2_with fail
      go_ret
      exact ⟨by rw [hv, hw]; rfl, hB2⟩
    | true =>
      go_wp2_with fail
      refine (i_anyOut s w.heap.size pa n ca xs lo hi _ hs HL.out hn HM2.out HC2.out hr2).mono ?_; rintro e w3 ⟨rfl, hb3⟩
      go_wp2
      go_ret
      exact ⟨by rw [hv, hw]; simp, below_then hB2 hb3⟩
set_option maxHeartbeats 1000000 in
theorem walk_FnExactIsSuper (x0 : ByteArray) (pa : Option Addr) (n cap : Nat) (w : World) (hx0 : x0.size ≤ maxLen) (hx : StrsAt w pa n cap) (hm : MaxAt w) :
    Calls Try.prog 7 #[.string x0, .slice pa n cap] w fun e w' => e = .returned (.bool true) ∧ Below w.heap.size w w' := by
  obtain ⟨xs, hx⟩ := hx
  have HX := Lib.hid hx; clear hx
  have HM := Lib.hid hm; clear hm
  have hy0 := hx0; unfold maxLen at hy0
  by_cases hbig : x0.size ≤ 1048576
  · go_enter Try.func7, Try.ntmps7
    go_wp2_with fail
    refine (l_szStringS pa n cap xs _ HX.out).mono ?_; rintro e w1 ⟨r, rfl, HR, hr0, hr1, hb1⟩
    by_cases hneg : r < 0
    · go_wp2
      go_ret
      exact ⟨rfl, hb1⟩
    · have hsz := HR.out (by omega)
      have hn : n ≤ 1048576 := by rw [← HX.out.1]; exact hsz.1
      have HS : Hid (∀ i : Nat, (xs[i]?.getD (⟨#[]⟩ : ByteArray)).size ≤ 1048576) := Lib.hid (fun i => by
        by_cases hi : i < xs.length
        · exact hsz.2 i hi
        · rw [List.getElem?_eq_none (by omega)]; exact Nat.zero_le _)
      have HSX : Hid (∀ x ∈ xs, x.size ≤ maxLen) := Lib.hid HX.out.2.2.2.1
      clear hsz
      have HX1 := Lib.hid (HX.out.kept hb1)
      have HM1 := Lib.hid (HM.out.kept hb1)
      obtain ⟨o, ho⟩ : ∃ o, o = superB x0 xs := ⟨_, rfl⟩
      have HO := Lib.hid ho; clear ho
      go_wp2_with fail
      refine (l_toStringS pa n cap xs _ HX1.out hn).mono ?_; rintro e w2 ⟨p2, m2, c2, rfl, HN2, hnc2, hcm2, hr2, hb2⟩
      obtain rfl : m2 = n := HN2.out.symm.trans HX.out.1
      have HX2 := Lib.hid (HX1.out.kept hb2)
      have HM2 := Lib.hid (HM1.out.kept hb2)
      have hB2 := below_then hb1 hb2
      clear hb1 hb2
      go_wp2_with fail
      refine (s_IsSuper x0 p2 m2 c2 xs _ _ _ hbig HN2.out hn HS.out HSX.out hr2).mono ?_; rintro e w3 ⟨rfl, hst3⟩
      rw [← HO.out]
      have HX3 := Lib.hid (HX2.out.kept hst3.1)
      have HM3 := Lib.hid (HM2.out.kept hst3.1)
      have hB3 := below_then hB2 hst3.1
      clear hB2 hst3 hr2
      go_wp2_with fail
      refine (l_toStringS pa m2 cap xs _ HX3.out hn).mono ?_; rintro e w4 ⟨p4, m4, c4, rfl, HN4, hnc4, hcm4, hr4, hb4⟩
      obtain rfl : m4 = m2 := HN4.out.symm.trans HX.out.1
      have HX4 := Lib.hid (HX3.out.kept hb4)
      have HM4 := Lib.hid (HM3.out.kept hb4)
      have hB4 := below_then hB3 hb4
      clear hB3 hb4
      go_wp2_with fail
      refine (i_IsSuper x0 p4 m4 c4 xs _ _ _ hbig HN4.out hn HSX.out HM4.out hr4).mono ?_; rintro e w5 ⟨rfl, hb5⟩
      rw [← HO.out]
      have HX5 := Lib.hid (HX4.out.kept hb5)
      have hr5 := hr4.kept hb5
      have hB5 := below_then hB4 hb5
      clear hB4 hb5 hr4
      go_wp2_with fail
      refine (l_toStringS pa m4 cap xs _ HX5.out hn).mono ?_; rintro e w6 ⟨p6, m6, c6, rfl, HN6, hnc6, hcm6, hr6, hb6⟩
      obtain rfl : m6 = m4 := HN6.out.symm.trans HX.out.1
      have hr56 := hr5.kept hb6
      have hB6 := below_then hB5 hb6
      clear hB5 hb6 hr5
      go_wp2_with fail
      refine (l_eqStringS p4 p6 m6 c4 c6 xs _ _ _ _ _ hn hr56 hr6).mono ?_; rintro e w7 ⟨rfl, hb7⟩
      go_wp2
      go_ret
      exact ⟨rfl, below_then hB6 hb7⟩
  · go_enter Try.func7, Try.ntmps7
    go_wp2_with fail
    all_goals first | (go_ret; exact ⟨rfl, Below.refl _ _⟩) | (exfalso; apply hbig; omega)
end Go.Proofs.Ytpabgagfkicobaa
