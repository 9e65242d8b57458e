/- The walks of the functions that draw texts. -/
import Derived.Test.YtokpcdclaifkpaaSt
namespace Go.Proofs.Ytokpcdclaifkpaa
open Go.RowKit
set_option linter.unusedVariables false

/-- The slice of bytes that a law is given. -/
def CodeAt (W : World) (pa : Option Addr) (n cap : Nat) : Prop := n ≤ cap ∧ cap ≤ maxLen ∧ ∀ i, i < n → ∃ b off x, pa = some ⟨b, off, none⟩ ∧ b < W.heap.size ∧ 0 ≤ x ∧ x ≤ 255 ∧ W.cell? ⟨b, off + i, none⟩ = some (.int .u8 x)
def Draw1 (W : World) (e : Ending) (W' : World) : Prop := ∃ s : ByteArray, e = .returned (.string s) ∧ s.size ≤ 41 ∧ Below W.heap.size W W'
def Draw2 (W : World) (e : Ending) (W' : World) : Prop := ∃ s t : ByteArray, e = .returned (.tuple #[.string s, .string t]) ∧ s.size ≤ 41 ∧ t.size ≤ 41 ∧ Below W.heap.size W W'
theorem below_of_grown {W W1 W2 : World} {B : Nat} (h1 : Below W.heap.size W W1) (h2 : W1.grownBy W2 (some B)) (hB : W.heap.size ≤ B) : Below W.heap.size W W2 :=
  h1.grown h2 h1.size (fun k e => by cases e; exact hB)

set_option maxHeartbeats 400000 in
theorem d_DrawValidText (W : World) (pa : Option Addr) (n cap : Nat) (h : CodeAt W pa n cap) : Calls Try.prog 20 #[.slice pa n cap] W (Draw1 W) := by
  have HC := Lib.hid h; clear h
  go_enter Try.func20, Try.ntmps20
  go_wp2_with fail
  refine (d_newReader W pa n cap HC.out.1 HC.out.2.1 HC.out.2.2).mono ?_; rintro e w1 ⟨B, rfl, hrd, hb1⟩
  have hB := hrd.1
  go_wp2_with fail
  refine (d_someText w1 W.heap.size B 0 40 (by omega) (by omega) (by omega) (by omega) hrd).mono ?_; rintro e w2 ⟨s, q, rfl, hs, _, _, _, hg⟩
  go_wp2
  go_ret
  exact ⟨s, rfl, by omega, below_of_grown hb1 hg hB⟩

set_option maxHeartbeats 400000 in
theorem d_DrawPeriodsOf (W : World) (pa : Option Addr) (n cap : Nat) (h : CodeAt W pa n cap) : Calls Try.prog 29 #[.slice pa n cap] W (Draw1 W) := by
  have HC := Lib.hid h; clear h
  go_enter Try.func29, Try.ntmps29
  go_wp2_with fail
  refine (d_newReader W pa n cap HC.out.1 HC.out.2.1 HC.out.2.2).mono ?_; rintro e w1 ⟨B, rfl, hrd, hb1⟩
  have hB := hrd.1
  go_wp2_with fail
  refine (d_someText w1 W.heap.size B 0 40 (by omega) (by omega) (by omega) (by omega) hrd).mono ?_; rintro e w2 ⟨s, q, rfl, hs, _, _, _, hg⟩
  go_wp2
  go_ret
  exact ⟨s, rfl, by omega, below_of_grown hb1 hg hB⟩

set_option maxHeartbeats 400000 in
theorem d_DrawBordersOf (W : World) (pa : Option Addr) (n cap : Nat) (h : CodeAt W pa n cap) : Calls Try.prog 42 #[.slice pa n cap] W (Draw1 W) := by
  have HC := Lib.hid h; clear h
  go_enter Try.func42, Try.ntmps42
  go_wp2_with fail
  refine (d_newReader W pa n cap HC.out.1 HC.out.2.1 HC.out.2.2).mono ?_; rintro e w1 ⟨B, rfl, hrd, hb1⟩
  have hB := hrd.1
  go_wp2_with fail
  refine (d_someText w1 W.heap.size B 0 40 (by omega) (by omega) (by omega) (by omega) hrd).mono ?_; rintro e w2 ⟨s, q, rfl, hs, _, _, _, hg⟩
  go_wp2
  go_ret
  exact ⟨s, rfl, by omega, below_of_grown hb1 hg hB⟩

set_option maxHeartbeats 400000 in
theorem d_DrawCoversOf (W : World) (pa : Option Addr) (n cap : Nat) (h : CodeAt W pa n cap) : Calls Try.prog 44 #[.slice pa n cap] W (Draw1 W) := by
  have HC := Lib.hid h; clear h
  go_enter Try.func44, Try.ntmps44
  go_wp2_with fail
  refine (d_newReader W pa n cap HC.out.1 HC.out.2.1 HC.out.2.2).mono ?_; rintro e w1 ⟨B, rfl, hrd, hb1⟩
  have hB := hrd.1
  go_wp2_with fail
  refine (d_someText w1 W.heap.size B 0 40 (by omega) (by omega) (by omega) (by omega) hrd).mono ?_; rintro e w2 ⟨s, q, rfl, hs, _, _, _, hg⟩
  go_wp2
  go_ret
  exact ⟨s, rfl, by omega, below_of_grown hb1 hg hB⟩




set_option maxHeartbeats 4000000 in
theorem d_DrawHasWord (W : World) (pa : Option Addr) (n cap : Nat) (h : CodeAt W pa n cap) : Calls Try.prog 15 #[.slice pa n cap] W (Draw2 W) := by
  have HC := Lib.hid h; clear h
  go_enter Try.func15, Try.ntmps15
  go_wp2_with fail
  refine (d_newReader W pa n cap HC.out.1 HC.out.2.1 HC.out.2.2).mono ?_; rintro e w1 ⟨B, rfl, hrd, hb1⟩
  have hB := hrd.1
  go_wp2_with fail
  refine (d_someText w1 W.heap.size B 0 20 (by omega) (by omega) (by omega) (by omega) hrd).mono ?_; rintro e w2 ⟨a, q, rfl, ha, hq0, hq1, hrd2, hg2⟩
  have hb2 := below_of_grown hb1 hg2 hB
  clear hrd hb1 hg2
  go_wp2_with fail
  refine (d_someText w2 W.heap.size B q 6 (by omega) (by omega) (by omega) (by omega) hrd2).mono ?_; rintro e w3 ⟨b, q2, rfl, hbs, hq2, hq3, hrd3, hg3⟩
  have hb3 := below_of_grown hb2 hg3 hB
  clear hrd2 hb2 hg3
  by_cases ha1 : 1 < a.size
  · go_wp2_with fail
    refine (d_pick w3 W.heap.size B q2 2 (by omega) (by omega) (by omega) (by omega) hrd3).mono ?_; rintro e w4 ⟨r, rfl, _, _, _, hrd4, hg4⟩
    have hb4 := below_of_grown hb3 hg4 hB
    clear hrd3 hb3 hg4
    by_cases hz : r = 0
    · subst hz
      go_wp2_with fail
      refine (d_pick w4 W.heap.size B (q2 + 1) a.size (by omega) (by omega) (by omega) (by omega) hrd4).mono ?_; rintro e w5 ⟨k, rfl, hk0, hk1, _, hrd5, hg5⟩
      have hk2 := hk1 (by omega)
      obtain ⟨j, rfl⟩ := Int.eq_ofNat_of_zero_le hk0
      have hb5 := below_of_grown hb4 hg5 hB
      clear hrd4 hb4 hg5 hk0 hk1
      go_wp2_with fail
      refine (d_pick w5 W.heap.size B _ 6 (by omega) (by omega) (by omega) (by omega) hrd5).mono ?_; rintro e w6 ⟨r6, rfl, h60, h61, _, hrd6, hg6⟩
      have h62 := h61 (by omega)
      obtain ⟨j6, rfl⟩ := Int.eq_ofNat_of_zero_le h60
      have hb6 := below_of_grown hb5 hg6 hB
      clear hrd5 hb5 hg6 h60 h61
      by_cases hmn : (j : Int) + 1 + j6 < a.size
      all_goals
        go_wp2_with fail
        refine (d_pick _ W.heap.size B _ 4 (by omega) (by omega) (by omega) (by omega) hrd6).mono ?_; rintro e w8 ⟨r4, rfl, _, _, _, hrd8, hg8⟩
        have hb8 := below_of_grown hb6 hg8 hB
        clear hrd6 hb6 hg8
        by_cases hz4 : r4 = 0
        · subst hz4
          go_wp2_with fail
          refine (d_pick _ W.heap.size B _ ((a.size : Int) - 1) (by omega) (by omega) (by omega) (by omega) hrd8).mono ?_; rintro e w9 ⟨r9, rfl, h90, h91, _, _, hg9⟩
          have h92 := h91 (by omega)
          obtain ⟨j9, rfl⟩ := Int.eq_ofNat_of_zero_le h90
          have hb9 := below_of_grown hb8 hg9 hB
          clear h91 h90
          go_wp2
          go_ret2
          exact ⟨a, _, rfl, by omega, by simp only [ByteArray.size_extract]; omega, hb9⟩
        · have hz4' : ((r4 : Int) == 0) = false := beq_eq_false_iff_ne.2 hz4
          go_wp2
          go_ret2
          exact ⟨a, _, rfl, by omega, by first | omega | (simp only [ByteArray.size_extract]; omega), hb8⟩
    · have hz' : ((r : Int) == 0) = false := beq_eq_false_iff_ne.2 hz
      have hrd6 := hrd4; have hb6 := hb4
      clear hrd4 hb4
      go_wp2_with fail
      refine (d_pick _ W.heap.size B _ 4 (by omega) (by omega) (by omega) (by omega) hrd6).mono ?_; rintro e w8 ⟨r4, rfl, _, _, _, hrd8, hg8⟩
      have hb8 := below_of_grown hb6 hg8 hB
      clear hrd6 hb6 hg8
      by_cases hz4 : r4 = 0
      · subst hz4
        go_wp2_with fail
        refine (d_pick _ W.heap.size B _ ((a.size : Int) - 1) (by omega) (by omega) (by omega) (by omega) hrd8).mono ?_; rintro e w9 ⟨r9, rfl, h90, h91, _, _, hg9⟩
        have h92 := h91 (by omega)
        obtain ⟨j9, rfl⟩ := Int.eq_ofNat_of_zero_le h90
        have hb9 := below_of_grown hb8 hg9 hB
        clear h91 h90
        go_wp2
        go_ret2
        exact ⟨a, _, rfl, by omega, by simp only [ByteArray.size_extract]; omega, hb9⟩
      · have hz4' : ((r4 : Int) == 0) = false := beq_eq_false_iff_ne.2 hz4
        go_wp2
        go_ret2
        exact ⟨a, _, rfl, by omega, by first | omega | (simp only [ByteArray.size_extract]; omega), hb8⟩
  · go_wp2
    go_ret2
    exact ⟨a, b, rfl, by omega, by omega, hb3⟩

set_option maxHeartbeats 4000000 in
theorem d_DrawOverlapOf (W : World) (pa : Option Addr) (n cap : Nat) (h : CodeAt W pa n cap) : Calls Try.prog 25 #[.slice pa n cap] W (Draw2 W) := by
  have HC := Lib.hid h; clear h
  go_enter Try.func25, Try.ntmps25
  go_wp2_with fail
  refine (d_newReader W pa n cap HC.out.1 HC.out.2.1 HC.out.2.2).mono ?_; rintro e w1 ⟨B, rfl, hrd, hb1⟩
  have hB := hrd.1
  go_wp2_with fail
  refine (d_someText w1 W.heap.size B 0 20 (by omega) (by omega) (by omega) (by omega) hrd).mono ?_; rintro e w2 ⟨a, q, rfl, ha, hq0, hq1, hrd2, hg2⟩
  have hb2 := below_of_grown hb1 hg2 hB
  clear hrd hb1 hg2
  go_wp2_with fail
  refine (d_someText w2 W.heap.size B q 6 (by omega) (by omega) (by omega) (by omega) hrd2).mono ?_; rintro e w3 ⟨b, q2, rfl, hbs, hq2, hq3, hrd3, hg3⟩
  have hb3 := below_of_grown hb2 hg3 hB
  clear hrd2 hb2 hg3
  by_cases ha1 : 1 < a.size
  · go_wp2_with fail
    refine (d_pick w3 W.heap.size B q2 2 (by omega) (by omega) (by omega) (by omega) hrd3).mono ?_; rintro e w4 ⟨r, rfl, _, _, _, hrd4, hg4⟩
    have hb4 := below_of_grown hb3 hg4 hB
    clear hrd3 hb3 hg4
    by_cases hz : r = 0
    · subst hz
      go_wp2_with fail
      refine (d_pick w4 W.heap.size B (q2 + 1) a.size (by omega) (by omega) (by omega) (by omega) hrd4).mono ?_; rintro e w5 ⟨k, rfl, hk0, hk1, _, hrd5, hg5⟩
      have hk2 := hk1 (by omega)
      obtain ⟨j, rfl⟩ := Int.eq_ofNat_of_zero_le hk0
      have hb5 := below_of_grown hb4 hg5 hB
      clear hrd4 hb4 hg5 hk0 hk1
      go_wp2_with fail
      refine (d_pick w5 W.heap.size B _ 6 (by omega) (by omega) (by omega) (by omega) hrd5).mono ?_; rintro e w6 ⟨r6, rfl, h60, h61, _, hrd6, hg6⟩
      have h62 := h61 (by omega)
      obtain ⟨j6, rfl⟩ := Int.eq_ofNat_of_zero_le h60
      have hb6 := below_of_grown hb5 hg6 hB
      clear hrd5 hb5 hg6 h60 h61
      by_cases hmn : (j : Int) + 1 + j6 < a.size
      all_goals
        go_wp2_with fail
        refine (d_pick _ W.heap.size B _ 4 (by omega) (by omega) (by omega) (by omega) hrd6).mono ?_; rintro e w8 ⟨r4, rfl, _, _, _, hrd8, hg8⟩
        have hb8 := below_of_grown hb6 hg8 hB
        clear hrd6 hb6 hg8
        by_cases hz4 : r4 = 0
        · subst hz4
          go_wp2_with fail
          refine (d_pick _ W.heap.size B _ ((a.size : Int) - 1) (by omega) (by omega) (by omega) (by omega) hrd8).mono ?_; rintro e w9 ⟨r9, rfl, h90, h91, _, _, hg9⟩
          have h92 := h91 (by omega)
          obtain ⟨j9, rfl⟩ := Int.eq_ofNat_of_zero_le h90
          have hb9 := below_of_grown hb8 hg9 hB
          clear h91 h90
          go_wp2
          go_ret2
          exact ⟨a, _, rfl, by omega, by simp only [ByteArray.size_extract]; omega, hb9⟩
        · have hz4' : ((r4 : Int) == 0) = false := beq_eq_false_iff_ne.2 hz4
          go_wp2
          go_ret2
          exact ⟨a, _, rfl, by omega, by first | omega | (simp only [ByteArray.size_extract]; omega), hb8⟩
    · have hz' : ((r : Int) == 0) = false := beq_eq_false_iff_ne.2 hz
      have hrd6 := hrd4; have hb6 := hb4
      clear hrd4 hb4
      go_wp2_with fail
      refine (d_pick _ W.heap.size B _ 4 (by omega) (by omega) (by omega) (by omega) hrd6).mono ?_; rintro e w8 ⟨r4, rfl, _, _, _, hrd8, hg8⟩
      have hb8 := below_of_grown hb6 hg8 hB
      clear hrd6 hb6 hg8
      by_cases hz4 : r4 = 0
      · subst hz4
        go_wp2_with fail
        refine (d_pick _ W.heap.size B _ ((a.size : Int) - 1) (by omega) (by omega) (by omega) (by omega) hrd8).mono ?_; rintro e w9 ⟨r9, rfl, h90, h91, _, _, hg9⟩
        have h92 := h91 (by omega)
        obtain ⟨j9, rfl⟩ := Int.eq_ofNat_of_zero_le h90
        have hb9 := below_of_grown hb8 hg9 hB
        clear h91 h90
        go_wp2
        go_ret2
        exact ⟨a, _, rfl, by omega, by simp only [ByteArray.size_extract]; omega, hb9⟩
      · have hz4' : ((r4 : Int) == 0) = false := beq_eq_false_iff_ne.2 hz4
        go_wp2
        go_ret2
        exact ⟨a, _, rfl, by omega, by first | omega | (simp only [ByteArray.size_extract]; omega), hb8⟩
  · go_wp2
    go_ret2
    exact ⟨a, b, rfl, by omega, by omega, hb3⟩

set_option maxHeartbeats 4000000 in
theorem d_DrawPlacesOf (W : World) (pa : Option Addr) (n cap : Nat) (h : CodeAt W pa n cap) : Calls Try.prog 40 #[.slice pa n cap] W (Draw2 W) := by
  have HC := Lib.hid h; clear h
  go_enter Try.func40, Try.ntmps40
  go_wp2_with fail
  refine (d_newReader W pa n cap HC.out.1 HC.out.2.1 HC.out.2.2).mono ?_; rintro e w1 ⟨B, rfl, hrd, hb1⟩
  have hB := hrd.1
  go_wp2_with fail
  refine (d_someText w1 W.heap.size B 0 20 (by omega) (by omega) (by omega) (by omega) hrd).mono ?_; rintro e w2 ⟨a, q, rfl, ha, hq0, hq1, hrd2, hg2⟩
  have hb2 := below_of_grown hb1 hg2 hB
  clear hrd hb1 hg2
  go_wp2_with fail
  refine (d_someText w2 W.heap.size B q 6 (by omega) (by omega) (by omega) (by omega) hrd2).mono ?_; rintro e w3 ⟨b, q2, rfl, hbs, hq2, hq3, hrd3, hg3⟩
  have hb3 := below_of_grown hb2 hg3 hB
  clear hrd2 hb2 hg3
  by_cases ha1 : 1 < a.size
  · go_wp2_with fail
    refine (d_pick w3 W.heap.size B q2 2 (by omega) (by omega) (by omega) (by omega) hrd3).mono ?_; rintro e w4 ⟨r, rfl, _, _, _, hrd4, hg4⟩
    have hb4 := below_of_grown hb3 hg4 hB
    clear hrd3 hb3 hg4
    by_cases hz : r = 0
    · subst hz
      go_wp2_with fail
      refine (d_pick w4 W.heap.size B (q2 + 1) a.size (by omega) (by omega) (by omega) (by omega) hrd4).mono ?_; rintro e w5 ⟨k, rfl, hk0, hk1, _, hrd5, hg5⟩
      have hk2 := hk1 (by omega)
      obtain ⟨j, rfl⟩ := Int.eq_ofNat_of_zero_le hk0
      have hb5 := below_of_grown hb4 hg5 hB
      clear hrd4 hb4 hg5 hk0 hk1
      go_wp2_with fail
      refine (d_pick w5 W.heap.size B _ 6 (by omega) (by omega) (by omega) (by omega) hrd5).mono ?_; rintro e w6 ⟨r6, rfl, h60, h61, _, hrd6, hg6⟩
      have h62 := h61 (by omega)
      obtain ⟨j6, rfl⟩ := Int.eq_ofNat_of_zero_le h60
      have hb6 := below_of_grown hb5 hg6 hB
      clear hrd5 hb5 hg6 h60 h61
      by_cases hmn : (j : Int) + 1 + j6 < a.size
      all_goals
        go_wp2_with fail
        refine (d_pick _ W.heap.size B _ 4 (by omega) (by omega) (by omega) (by omega) hrd6).mono ?_; rintro e w8 ⟨r4, rfl, _, _, _, hrd8, hg8⟩
        have hb8 := below_of_grown hb6 hg8 hB
        clear hrd6 hb6 hg8
        by_cases hz4 : r4 = 0
        · subst hz4
          go_wp2_with fail
          refine (d_pick _ W.heap.size B _ ((a.size : Int) - 1) (by omega) (by omega) (by omega) (by omega) hrd8).mono ?_; rintro e w9 ⟨r9, rfl, h90, h91, _, _, hg9⟩
          have h92 := h91 (by omega)
          obtain ⟨j9, rfl⟩ := Int.eq_ofNat_of_zero_le h90
          have hb9 := below_of_grown hb8 hg9 hB
          clear h91 h90
          go_wp2
          go_ret2
          exact ⟨a, _, rfl, by omega, by simp only [ByteArray.size_extract]; omega, hb9⟩
        · have hz4' : ((r4 : Int) == 0) = false := beq_eq_false_iff_ne.2 hz4
          go_wp2
          go_ret2
          exact ⟨a, _, rfl, by omega, by first | omega | (simp only [ByteArray.size_extract]; omega), hb8⟩
    · have hz' : ((r : Int) == 0) = false := beq_eq_false_iff_ne.2 hz
      have hrd6 := hrd4; have hb6 := hb4
      clear hrd4 hb4
      go_wp2_with fail
      refine (d_pick _ W.heap.size B _ 4 (by omega) (by omega) (by omega) (by omega) hrd6).mono ?_; rintro e w8 ⟨r4, rfl, _, _, _, hrd8, hg8⟩
      have hb8 := below_of_grown hb6 hg8 hB
      clear hrd6 hb6 hg8
      by_cases hz4 : r4 = 0
      · subst hz4
        go_wp2_with fail
        refine (d_pick _ W.heap.size B _ ((a.size : Int) - 1) (by omega) (by omega) (by omega) (by omega) hrd8).mono ?_; rintro e w9 ⟨r9, rfl, h90, h91, _, _, hg9⟩
        have h92 := h91 (by omega)
        obtain ⟨j9, rfl⟩ := Int.eq_ofNat_of_zero_le h90
        have hb9 := below_of_grown hb8 hg9 hB
        clear h91 h90
        go_wp2
        go_ret2
        exact ⟨a, _, rfl, by omega, by simp only [ByteArray.size_extract]; omega, hb9⟩
      · have hz4' : ((r4 : Int) == 0) = false := beq_eq_false_iff_ne.2 hz4
        go_wp2
        go_ret2
        exact ⟨a, _, rfl, by omega, by first | omega | (simp only [ByteArray.size_extract]; omega), hb8⟩
  · go_wp2
    go_ret2
    exact ⟨a, b, rfl, by omega, by omega, hb3⟩

set_option maxHeartbeats 4000000 in
theorem d_DrawIsRow (W : World) (pa : Option Addr) (n cap : Nat) (h : CodeAt W pa n cap) : Calls Try.prog 47 #[.slice pa n cap] W (Draw2 W) := by
  have HC := Lib.hid h; clear h
  go_enter Try.func47, Try.ntmps47
  go_wp2_with fail
  refine (d_newReader W pa n cap HC.out.1 HC.out.2.1 HC.out.2.2).mono ?_; rintro e w1 ⟨B, rfl, hrd, hb1⟩
  have hB := hrd.1
  go_wp2_with fail
  refine (d_someText w1 W.heap.size B 0 20 (by omega) (by omega) (by omega) (by omega) hrd).mono ?_; rintro e w2 ⟨a, q, rfl, ha, hq0, hq1, hrd2, hg2⟩
  have hb2 := below_of_grown hb1 hg2 hB
  clear hrd hb1 hg2
  go_wp2_with fail
  refine (d_someText w2 W.heap.size B q 6 (by omega) (by omega) (by omega) (by omega) hrd2).mono ?_; rintro e w3 ⟨b, q2, rfl, hbs, hq2, hq3, hrd3, hg3⟩
  have hb3 := below_of_grown hb2 hg3 hB
  clear hrd2 hb2 hg3
  by_cases ha1 : 1 < a.size
  · go_wp2_with fail
    refine (d_pick w3 W.heap.size B q2 2 (by omega) (by omega) (by omega) (by omega) hrd3).mono ?_; rintro e w4 ⟨r, rfl, _, _, _, hrd4, hg4⟩
    have hb4 := below_of_grown hb3 hg4 hB
    clear hrd3 hb3 hg4
    by_cases hz : r = 0
    · subst hz
      go_wp2_with fail
      refine (d_pick w4 W.heap.size B (q2 + 1) a.size (by omega) (by omega) (by omega) (by omega) hrd4).mono ?_; rintro e w5 ⟨k, rfl, hk0, hk1, _, hrd5, hg5⟩
      have hk2 := hk1 (by omega)
      obtain ⟨j, rfl⟩ := Int.eq_ofNat_of_zero_le hk0
      have hb5 := below_of_grown hb4 hg5 hB
      clear hrd4 hb4 hg5 hk0 hk1
      go_wp2_with fail
      refine (d_pick w5 W.heap.size B _ 6 (by omega) (by omega) (by omega) (by omega) hrd5).mono ?_; rintro e w6 ⟨r6, rfl, h60, h61, _, hrd6, hg6⟩
      have h62 := h61 (by omega)
      obtain ⟨j6, rfl⟩ := Int.eq_ofNat_of_zero_le h60
      have hb6 := below_of_grown hb5 hg6 hB
      clear hrd5 hb5 hg6 h60 h61
      by_cases hmn : (j : Int) + 1 + j6 < a.size
      all_goals
        go_wp2_with fail
        refine (d_pick _ W.heap.size B _ 4 (by omega) (by omega) (by omega) (by omega) hrd6).mono ?_; rintro e w8 ⟨r4, rfl, _, _, _, hrd8, hg8⟩
        have hb8 := below_of_grown hb6 hg8 hB
        clear hrd6 hb6 hg8
        by_cases hz4 : r4 = 0
        · subst hz4
          go_wp2_with fail
          refine (d_pick _ W.heap.size B _ ((a.size : Int) - 1) (by omega) (by omega) (by omega) (by omega) hrd8).mono ?_; rintro e w9 ⟨r9, rfl, h90, h91, _, _, hg9⟩
          have h92 := h91 (by omega)
          obtain ⟨j9, rfl⟩ := Int.eq_ofNat_of_zero_le h90
          have hb9 := below_of_grown hb8 hg9 hB
          clear h91 h90
          go_wp2
          go_ret2
          exact ⟨a, _, rfl, by omega, by simp only [ByteArray.size_extract]; omega, hb9⟩
        · have hz4' : ((r4 : Int) == 0) = false := beq_eq_false_iff_ne.2 hz4
          go_wp2
          go_ret2
          exact ⟨a, _, rfl, by omega, by first | omega | (simp only [ByteArray.size_extract]; omega), hb8⟩
    · have hz' : ((r : Int) == 0) = false := beq_eq_false_iff_ne.2 hz
      have hrd6 := hrd4; have hb6 := hb4
      clear hrd4 hb4
      go_wp2_with fail
      refine (d_pick _ W.heap.size B _ 4 (by omega) (by omega) (by omega) (by omega) hrd6).mono ?_; rintro e w8 ⟨r4, rfl, _, _, _, hrd8, hg8⟩
      have hb8 := below_of_grown hb6 hg8 hB
      clear hrd6 hb6 hg8
      by_cases hz4 : r4 = 0
      · subst hz4
        go_wp2_with fail
        refine (d_pick _ W.heap.size B _ ((a.size : Int) - 1) (by omega) (by omega) (by omega) (by omega) hrd8).mono ?_; rintro e w9 ⟨r9, rfl, h90, h91, _, _, hg9⟩
        have h92 := h91 (by omega)
        obtain ⟨j9, rfl⟩ := Int.eq_ofNat_of_zero_le h90
        have hb9 := below_of_grown hb8 hg9 hB
        clear h91 h90
        go_wp2
        go_ret2
        exact ⟨a, _, rfl, by omega, by simp only [ByteArray.size_extract]; omega, hb9⟩
      · have hz4' : ((r4 : Int) == 0) = false := beq_eq_false_iff_ne.2 hz4
        go_wp2
        go_ret2
        exact ⟨a, _, rfl, by omega, by first | omega | (simp only [ByteArray.size_extract]; omega), hb8⟩
  · go_wp2
    go_ret2
    exact ⟨a, b, rfl, by omega, by omega, hb3⟩

set_option maxHeartbeats 4000000 in
theorem d_DrawIsCover (W : World) (pa : Option Addr) (n cap : Nat) (h : CodeAt W pa n cap) : Calls Try.prog 22 #[.slice pa n cap] W (Draw2 W) := by
  have HC := Lib.hid h; clear h
  go_enter Try.func22, Try.ntmps22
  go_wp2_with fail
  refine (d_newReader W pa n cap HC.out.1 HC.out.2.1 HC.out.2.2).mono ?_; rintro e w1 ⟨B, rfl, hrd, hb1⟩
  have hB := hrd.1
  go_wp2_with fail
  refine (d_someText w1 W.heap.size B 0 20 (by omega) (by omega) (by omega) (by omega) hrd).mono ?_; rintro e w2 ⟨a, q, rfl, ha, hq0, hq1, hrd2, hg2⟩
  have hb2 := below_of_grown hb1 hg2 hB
  clear hrd hb1 hg2
  go_wp2_with fail
  refine (d_someText w2 W.heap.size B q 6 (by omega) (by omega) (by omega) (by omega) hrd2).mono ?_; rintro e w3 ⟨b, q2, rfl, hbs, hq2, hq3, hrd3, hg3⟩
  have hb3 := below_of_grown hb2 hg3 hB
  clear hrd2 hb2 hg3
  by_cases ha1 : 1 < a.size
  · go_wp2_with fail
    refine (d_pick w3 W.heap.size B q2 2 (by omega) (by omega) (by omega) (by omega) hrd3).mono ?_; rintro e w4 ⟨r, rfl, _, _, _, hrd4, hg4⟩
    have hb4 := below_of_grown hb3 hg4 hB
    clear hrd3 hb3 hg4
    by_cases hz : r = 0
    · subst hz
      go_wp2_with fail
      refine (d_pick w4 W.heap.size B (q2 + 1) a.size (by omega) (by omega) (by omega) (by omega) hrd4).mono ?_; rintro e w5 ⟨k, rfl, hk0, hk1, _, hrd5, hg5⟩
      have hk2 := hk1 (by omega)
      obtain ⟨j, rfl⟩ := Int.eq_ofNat_of_zero_le hk0
      have hb5 := below_of_grown hb4 hg5 hB
      clear hrd4 hb4 hg5 hk0 hk1
      go_wp2_with fail
      refine (d_pick w5 W.heap.size B _ 6 (by omega) (by omega) (by omega) (by omega) hrd5).mono ?_; rintro e w6 ⟨r6, rfl, h60, h61, _, hrd6, hg6⟩
      have h62 := h61 (by omega)
      obtain ⟨j6, rfl⟩ := Int.eq_ofNat_of_zero_le h60
      have hb6 := below_of_grown hb5 hg6 hB
      clear hrd5 hb5 hg6 h60 h61
      by_cases hmn : (j : Int) + 1 + j6 < a.size
      all_goals
        go_wp2_with fail
        refine (d_pick _ W.heap.size B _ 4 (by omega) (by omega) (by omega) (by omega) hrd6).mono ?_; rintro e w8 ⟨r4, rfl, _, _, _, hrd8, hg8⟩
        have hb8 := below_of_grown hb6 hg8 hB
        clear hrd6 hb6 hg8
        by_cases hz4 : r4 = 0
        · subst hz4
          go_wp2_with fail
          refine (d_pick _ W.heap.size B _ ((a.size : Int) - 1) (by omega) (by omega) (by omega) (by omega) hrd8).mono ?_; rintro e w9 ⟨r9, rfl, h90, h91, _, _, hg9⟩
          have h92 := h91 (by omega)
          obtain ⟨j9, rfl⟩ := Int.eq_ofNat_of_zero_le h90
          have hb9 := below_of_grown hb8 hg9 hB
          clear h91 h90
          go_wp2
          go_ret2
          exact ⟨a, _, rfl, by omega, by simp only [ByteArray.size_extract]; omega, hb9⟩
        · have hz4' : ((r4 : Int) == 0) = false := beq_eq_false_iff_ne.2 hz4
          go_wp2
          go_ret2
          exact ⟨a, _, rfl, by omega, by first | omega | (simp only [ByteArray.size_extract]; omega), hb8⟩
    · have hz' : ((r : Int) == 0) = false := beq_eq_false_iff_ne.2 hz
      have hrd6 := hrd4; have hb6 := hb4
      clear hrd4 hb4
      go_wp2_with fail
      refine (d_pick _ W.heap.size B _ 4 (by omega) (by omega) (by omega) (by omega) hrd6).mono ?_; rintro e w8 ⟨r4, rfl, _, _, _, hrd8, hg8⟩
      have hb8 := below_of_grown hb6 hg8 hB
      clear hrd6 hb6 hg8
      by_cases hz4 : r4 = 0
      · subst hz4
        go_wp2_with fail
        refine (d_pick _ W.heap.size B _ ((a.size : Int) - 1) (by omega) (by omega) (by omega) (by omega) hrd8).mono ?_; rintro e w9 ⟨r9, rfl, h90, h91, _, _, hg9⟩
        have h92 := h91 (by omega)
        obtain ⟨j9, rfl⟩ := Int.eq_ofNat_of_zero_le h90
        have hb9 := below_of_grown hb8 hg9 hB
        clear h91 h90
        go_wp2
        go_ret2
        exact ⟨a, _, rfl, by omega, by simp only [ByteArray.size_extract]; omega, hb9⟩
      · have hz4' : ((r4 : Int) == 0) = false := beq_eq_false_iff_ne.2 hz4
        go_wp2
        go_ret2
        exact ⟨a, _, rfl, by omega, by first | omega | (simp only [ByteArray.size_extract]; omega), hb8⟩
  · go_wp2
    go_ret2
    exact ⟨a, b, rfl, by omega, by omega, hb3⟩

set_option maxHeartbeats 4000000 in
theorem d_DrawCommonRow (W : World) (pa : Option Addr) (n cap : Nat) (h : CodeAt W pa n cap) : Calls Try.prog 36 #[.slice pa n cap] W (Draw2 W) := by
  have HC := Lib.hid h; clear h
  go_enter Try.func36, Try.ntmps36
  go_wp2_with fail
  refine (d_newReader W pa n cap HC.out.1 HC.out.2.1 HC.out.2.2).mono ?_; rintro e w1 ⟨B, rfl, hrd, hb1⟩
  have hB := hrd.1
  go_wp2_with fail
  refine (d_someText w1 W.heap.size B 0 20 (by omega) (by omega) (by omega) (by omega) hrd).mono ?_; rintro e w2 ⟨a, q, rfl, ha, hq0, hq1, hrd2, hg2⟩
  have hb2 := below_of_grown hb1 hg2 hB
  clear hrd hb1 hg2
  go_wp2_with fail
  refine (d_someText w2 W.heap.size B q 20 (by omega) (by omega) (by omega) (by omega) hrd2).mono ?_; rintro e w3 ⟨b, q2, rfl, hbs, hq2, hq3, hrd3, hg3⟩
  have hb3 := below_of_grown hb2 hg3 hB
  clear hrd2 hb2 hg3
  by_cases ha1 : 1 < a.size
  · go_wp2_with fail
    refine (d_pick w3 W.heap.size B q2 2 (by omega) (by omega) (by omega) (by omega) hrd3).mono ?_; rintro e w4 ⟨r, rfl, _, _, _, hrd4, hg4⟩
    have hb4 := below_of_grown hb3 hg4 hB
    clear hrd3 hb3 hg4
    by_cases hz : r = 0
    · subst hz
      go_wp2_with fail
      refine (d_pick w4 W.heap.size B (q2 + 1) a.size (by omega) (by omega) (by omega) (by omega) hrd4).mono ?_; rintro e w5 ⟨k, rfl, hk0, hk1, _, hrd5, hg5⟩
      have hk2 := hk1 (by omega)
      obtain ⟨j, rfl⟩ := Int.eq_ofNat_of_zero_le hk0
      have hb5 := below_of_grown hb4 hg5 hB
      clear hrd4 hb4 hg5 hk0 hk1
      go_wp2_with fail
      refine (d_pick w5 W.heap.size B _ 6 (by omega) (by omega) (by omega) (by omega) hrd5).mono ?_; rintro e w6 ⟨r6, rfl, h60, h61, _, hrd6, hg6⟩
      have h62 := h61 (by omega)
      obtain ⟨j6, rfl⟩ := Int.eq_ofNat_of_zero_le h60
      have hb6 := below_of_grown hb5 hg6 hB
      clear hrd5 hb5 hg6 h60 h61
      by_cases hmn : (j : Int) + 1 + j6 < a.size
      all_goals
        go_wp2_with fail
        refine (d_pick _ W.heap.size B _ 4 (by omega) (by omega) (by omega) (by omega) hrd6).mono ?_; rintro e w8 ⟨r4, rfl, _, _, _, hrd8, hg8⟩
        have hb8 := below_of_grown hb6 hg8 hB
        clear hrd6 hb6 hg8
        by_cases hz4 : r4 = 0
        · subst hz4
          go_wp2_with fail
          refine (d_pick _ W.heap.size B _ ((a.size : Int) - 1) (by omega) (by omega) (by omega) (by omega) hrd8).mono ?_; rintro e w9 ⟨r9, rfl, h90, h91, _, _, hg9⟩
          have h92 := h91 (by omega)
          obtain ⟨j9, rfl⟩ := Int.eq_ofNat_of_zero_le h90
          have hb9 := below_of_grown hb8 hg9 hB
          clear h91 h90
          go_wp2
          go_ret2
          exact ⟨a, _, rfl, by omega, by simp only [ByteArray.size_extract]; omega, hb9⟩
        · have hz4' : ((r4 : Int) == 0) = false := beq_eq_false_iff_ne.2 hz4
          go_wp2
          go_ret2
          exact ⟨a, _, rfl, by omega, by first | omega | (simp only [ByteArray.size_extract]; omega), hb8⟩
    · have hz' : ((r : Int) == 0) = false := beq_eq_false_iff_ne.2 hz
      have hrd6 := hrd4; have hb6 := hb4
      clear hrd4 hb4
      go_wp2_with fail
      refine (d_pick _ W.heap.size B _ 4 (by omega) (by omega) (by omega) (by omega) hrd6).mono ?_; rintro e w8 ⟨r4, rfl, _, _, _, hrd8, hg8⟩
      have hb8 := below_of_grown hb6 hg8 hB
      clear hrd6 hb6 hg8
      by_cases hz4 : r4 = 0
      · subst hz4
        go_wp2_with fail
        refine (d_pick _ W.heap.size B _ ((a.size : Int) - 1) (by omega) (by omega) (by omega) (by omega) hrd8).mono ?_; rintro e w9 ⟨r9, rfl, h90, h91, _, _, hg9⟩
        have h92 := h91 (by omega)
        obtain ⟨j9, rfl⟩ := Int.eq_ofNat_of_zero_le h90
        have hb9 := below_of_grown hb8 hg9 hB
        clear h91 h90
        go_wp2
        go_ret2
        exact ⟨a, _, rfl, by omega, by simp only [ByteArray.size_extract]; omega, hb9⟩
      · have hz4' : ((r4 : Int) == 0) = false := beq_eq_false_iff_ne.2 hz4
        go_wp2
        go_ret2
        exact ⟨a, _, rfl, by omega, by first | omega | (simp only [ByteArray.size_extract]; omega), hb8⟩
  · go_wp2
    go_ret2
    exact ⟨a, b, rfl, by omega, by omega, hb3⟩

set_option maxHeartbeats 4000000 in
theorem d_DrawMixTwo (W : World) (pa : Option Addr) (n cap : Nat) (h : CodeAt W pa n cap) : Calls Try.prog 49 #[.slice pa n cap] W (Draw2 W) := by
  have HC := Lib.hid h; clear h
  go_enter Try.func49, Try.ntmps49
  go_wp2_with fail
  refine (d_newReader W pa n cap HC.out.1 HC.out.2.1 HC.out.2.2).mono ?_; rintro e w1 ⟨B, rfl, hrd, hb1⟩
  have hB := hrd.1
  go_wp2_with fail
  refine (d_someText w1 W.heap.size B 0 20 (by omega) (by omega) (by omega) (by omega) hrd).mono ?_; rintro e w2 ⟨a, q, rfl, ha, hq0, hq1, hrd2, hg2⟩
  have hb2 := below_of_grown hb1 hg2 hB
  clear hrd hb1 hg2
  go_wp2_with fail
  refine (d_someText w2 W.heap.size B q 20 (by omega) (by omega) (by omega) (by omega) hrd2).mono ?_; rintro e w3 ⟨b, q2, rfl, hbs, hq2, hq3, hrd3, hg3⟩
  have hb3 := below_of_grown hb2 hg3 hB
  clear hrd2 hb2 hg3
  by_cases ha1 : 1 < a.size
  · go_wp2_with fail
    refine (d_pick w3 W.heap.size B q2 2 (by omega) (by omega) (by omega) (by omega) hrd3).mono ?_; rintro e w4 ⟨r, rfl, _, _, _, hrd4, hg4⟩
    have hb4 := below_of_grown hb3 hg4 hB
    clear hrd3 hb3 hg4
    by_cases hz : r = 0
    · subst hz
      go_wp2_with fail
      refine (d_pick w4 W.heap.size B (q2 + 1) a.size (by omega) (by omega) (by omega) (by omega) hrd4).mono ?_; rintro e w5 ⟨k, rfl, hk0, hk1, _, hrd5, hg5⟩
      have hk2 := hk1 (by omega)
      obtain ⟨j, rfl⟩ := Int.eq_ofNat_of_zero_le hk0
      have hb5 := below_of_grown hb4 hg5 hB
      clear hrd4 hb4 hg5 hk0 hk1
      go_wp2_with fail
      refine (d_pick w5 W.heap.size B _ 6 (by omega) (by omega) (by omega) (by omega) hrd5).mono ?_; rintro e w6 ⟨r6, rfl, h60, h61, _, hrd6, hg6⟩
      have h62 := h61 (by omega)
      obtain ⟨j6, rfl⟩ := Int.eq_ofNat_of_zero_le h60
      have hb6 := below_of_grown hb5 hg6 hB
      clear hrd5 hb5 hg6 h60 h61
      by_cases hmn : (j : Int) + 1 + j6 < a.size
      all_goals
        go_wp2_with fail
        refine (d_pick _ W.heap.size B _ 4 (by omega) (by omega) (by omega) (by omega) hrd6).mono ?_; rintro e w8 ⟨r4, rfl, _, _, _, hrd8, hg8⟩
        have hb8 := below_of_grown hb6 hg8 hB
        clear hrd6 hb6 hg8
        by_cases hz4 : r4 = 0
        · subst hz4
          go_wp2_with fail
          refine (d_pick _ W.heap.size B _ ((a.size : Int) - 1) (by omega) (by omega) (by omega) (by omega) hrd8).mono ?_; rintro e w9 ⟨r9, rfl, h90, h91, _, _, hg9⟩
          have h92 := h91 (by omega)
          obtain ⟨j9, rfl⟩ := Int.eq_ofNat_of_zero_le h90
          have hb9 := below_of_grown hb8 hg9 hB
          clear h91 h90
          go_wp2
          go_ret2
          exact ⟨a, _, rfl, by omega, by simp only [ByteArray.size_extract]; omega, hb9⟩
        · have hz4' : ((r4 : Int) == 0) = false := beq_eq_false_iff_ne.2 hz4
          go_wp2
          go_ret2
          exact ⟨a, _, rfl, by omega, by first | omega | (simp only [ByteArray.size_extract]; omega), hb8⟩
    · have hz' : ((r : Int) == 0) = false := beq_eq_false_iff_ne.2 hz
      have hrd6 := hrd4; have hb6 := hb4
      clear hrd4 hb4
      go_wp2_with fail
      refine (d_pick _ W.heap.size B _ 4 (by omega) (by omega) (by omega) (by omega) hrd6).mono ?_; rintro e w8 ⟨r4, rfl, _, _, _, hrd8, hg8⟩
      have hb8 := below_of_grown hb6 hg8 hB
      clear hrd6 hb6 hg8
      by_cases hz4 : r4 = 0
      · subst hz4
        go_wp2_with fail
        refine (d_pick _ W.heap.size B _ ((a.size : Int) - 1) (by omega) (by omega) (by omega) (by omega) hrd8).mono ?_; rintro e w9 ⟨r9, rfl, h90, h91, _, _, hg9⟩
        have h92 := h91 (by omega)
        obtain ⟨j9, rfl⟩ := Int.eq_ofNat_of_zero_le h90
        have hb9 := below_of_grown hb8 hg9 hB
        clear h91 h90
        go_wp2
        go_ret2
        exact ⟨a, _, rfl, by omega, by simp only [ByteArray.size_extract]; omega, hb9⟩
      · have hz4' : ((r4 : Int) == 0) = false := beq_eq_false_iff_ne.2 hz4
        go_wp2
        go_ret2
        exact ⟨a, _, rfl, by omega, by first | omega | (simp only [ByteArray.size_extract]; omega), hb8⟩
  · go_wp2
    go_ret2
    exact ⟨a, b, rfl, by omega, by omega, hb3⟩

end Go.Proofs.Ytokpcdclaifkpaa
