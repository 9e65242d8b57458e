/- Walk of the law FnCommonRow over drawn texts: the common row is the same both ways, no longer than either, and all of the second exactly if that is a row of the first. -/
import Derived.Test.YtokpcdclaifkpaaWt2
import Derived.Test.YtokpcdclaifkpaaCr
namespace Go.Proofs.Ytokpcdclaifkpaa
open Go.RowKit
set_option linter.unusedVariables false

theorem lcs_le (n : Nat) : ∀ a b : List UInt8, a.length + b.length ≤ n → lcs a b ≤ a.length ∧ lcs a b ≤ b.length := by
  induction n with
  | zero =>
    intro a b h
    obtain rfl : a = [] := List.length_eq_zero_iff.1 (by omega)
    rw [lcs_nil]; simp
  | succ n ih =>
    intro a b h
    cases a with
    | nil => rw [lcs_nil]; simp
    | cons x xs =>
      cases b with
      | nil => rw [lcs_nil']; simp
      | cons y ys =>
        simp only [List.length_cons] at h ⊢
        have h1 := ih xs ys (by omega)
        have h2 := ih xs (y :: ys) (by simp only [List.length_cons]; omega)
        have h3 := ih (x :: xs) ys (by simp only [List.length_cons]; omega)
        simp only [List.length_cons] at h2 h3
        rw [lcs_cons]
        by_cases e : x = y
        · rw [if_pos e]; omega
        · rw [if_neg e]; omega
theorem lcs_comm (n : Nat) : ∀ a b : List UInt8, a.length + b.length ≤ n → lcs a b = lcs b a := by
  induction n with
  | zero =>
    intro a b h
    obtain rfl : a = [] := List.length_eq_zero_iff.1 (by omega)
    rw [lcs_nil, lcs_nil']
  | succ n ih =>
    intro a b h
    cases a with
    | nil => rw [lcs_nil, lcs_nil']
    | cons x xs =>
      cases b with
      | nil => rw [lcs_nil, lcs_nil']
      | cons y ys =>
        simp only [List.length_cons] at h
        rw [lcs_cons, lcs_cons]
        by_cases e : x = y
        · rw [if_pos e, if_pos e.symm, ih xs ys (by omega)]
        · rw [if_neg e, if_neg (fun k => e k.symm), ih xs (y :: ys) (by simp only [List.length_cons]; omega), ih (x :: xs) ys (by simp only [List.length_cons]; omega), Nat.max_comm]
theorem rowRest_cons (x y : UInt8) (a b : List UInt8) : rowRest (x :: a) (y :: b) = if x = y then rowRest a b else rowRest a (y :: b) := by
  unfold rowRest
  rw [List.foldl_cons, rowStep]
  by_cases e : x = y
  · rw [if_pos e, if_pos e]
  · rw [if_neg e, if_neg e]
theorem lcs_full : ∀ a b : List UInt8, (lcs a b = b.length) ↔ rowRest a b = [] := by
  intro a
  induction a with
  | nil =>
    intro b
    rw [lcs_nil]
    show 0 = b.length ↔ b = []
    constructor
    · intro h; exact List.length_eq_zero_iff.1 h.symm
    · intro h; rw [h]; rfl
  | cons x xs ih =>
    intro b
    cases b with
    | nil => rw [lcs_nil', rowRest_nil]; simp
    | cons y ys =>
      rw [lcs_cons, rowRest_cons]
      by_cases e : x = y
      · rw [if_pos e, if_pos e, ← ih ys]; simp
      · rw [if_neg e, if_neg e, ← ih (y :: ys)]
        have h1 := lcs_le _ xs (y :: ys) (Nat.le_refl _)
        have h2 := lcs_le _ (x :: xs) ys (Nat.le_refl _)
        simp only [List.length_cons] at h1 h2 ⊢
        omega
theorem commonI_comm {s t : ByteArray} (h1 : vt s.data.toList = true) (h2 : vt t.data.toList = true) : commonI t s = commonI s t := by
  rw [commonI_yes h1 h2, commonI_yes h2 h1]; unfold lcsT; simp only [List.drop_zero]; rw [lcs_comm _ _ _ (Nat.le_refl _)]
theorem commonI_row {s t : ByteArray} (h1 : vt s.data.toList = true) (h2 : vt t.data.toList = true) : (commonI s t == (t.size : Int)) = isRowB s t := by
  rw [commonI_yes h1 h2]; unfold lcsT isRowB; simp only [List.drop_zero]; rw [h1, h2, Bool.true_and, Bool.true_and, Bool.eq_iff_iff, beq_iff_eq, List.isEmpty_iff, ← lcs_full, list_len]; omega
theorem commonI_min {s t : ByteArray} (h1 : vt s.data.toList = true) (h2 : vt t.data.toList = true) : 0 ≤ commonI s t ∧ commonI s t ≤ s.size ∧ commonI s t ≤ t.size := by
  rw [commonI_yes h1 h2]; unfold lcsT; simp only [List.drop_zero]
  have := lcs_le _ s.data.toList t.data.toList (Nat.le_refl _)
  rw [list_len, list_len] at this; omega

set_option maxHeartbeats 4000000 in
theorem walk_FnCommonRow (pa : Option Addr) (n cap : Nat) (w : World) (hx : CodeAt w pa n cap) :
    Calls Try.prog 8 #[.slice pa n cap] w fun e w' => e = .returned (.bool true) ∧ Below w.heap.size w w' := by
  have hcap := hx.2.1; have hnc := hx.1
  unfold maxLen at hcap
  have HC := Lib.hid hx; clear hx
  by_cases hn : n ≤ 1048576
  · go_enter Try.func8, Try.ntmps8
    go_wp2_with fail
    refine (d_DrawCommonRow _ _ _ _ HC.out).mono ?_; rintro e w1 ⟨s, t, rfl, hs, ht, hb1⟩
    go_wp2_with fail
    refine (i_CommonRow s t _ (size41 hs) (size41 ht)).mono ?_; rintro e w2 ⟨rfl, hb2⟩
    have hB2 := Below.then hb1 hb2; clear hb1 hb2
    go_wp2_with fail
    refine (s_CommonRow s t _ (size41 hs) (size41 ht)).mono ?_; rintro e w3 ⟨rfl, hb3⟩
    have hB3 := Below.then hB2 hb3; clear hB2 hb3
    by_cases hv : vt s.data.toList = true ∧ vt t.data.toList = true
    · obtain ⟨h1, h2⟩ := hv
      have hc := commonI_min h1 h2
      have hrow := commonI_row h1 h2
      have hcom := commonI_comm h1 h2
      obtain ⟨c, hcd⟩ : ∃ c, c = commonI s t := ⟨_, rfl⟩
      rw [← hcd] at hc hrow hcom
      obtain ⟨hc0, hc1, hc2⟩ := hc
      have HS := Lib.hid (size41 hs)
      have HT := Lib.hid (size41 ht)
      have HR := Lib.hid hrow; clear hrow
      have HCM := Lib.hid hcom; clear hcom
      rw [← hcd]
      clear hcd h1 h2
      go_wp2_with fail
      refine (i_CommonRow t s _ HT.out HS.out).mono ?_; rintro e w4 ⟨rfl, hb4⟩
      have hB4 := Below.then hB3 hb4; clear hB3 hb4
      rw [HCM.out]
      go_wp2_with fail
      refine (i_IsRow s t _ HS.out HT.out).mono ?_; rintro e w5 ⟨rfl, hb5⟩
      rw [← HR.out]
      go_wp2
      go_ret
      exact ⟨rfl, Below.then hB4 hb5⟩
    · have hneg : commonI s t = -1 := commonI_no (by
        cases h1 : vt s.data.toList with
        | false => exact .inl rfl
        | true => cases h2 : vt t.data.toList with
          | false => exact .inr rfl
          | true => exact absurd ⟨h1, h2⟩ hv)
      clear hv
      have HNG := Lib.hid hneg
      rw [hneg]
      clear hneg
      go_wp2_with fail
      refine (s_CommonRow s t _ (size41 hs) (size41 ht)).mono ?_; rintro e w4 ⟨rfl, hb4⟩
      rw [HNG.out]
      go_wp2
      go_ret
      exact ⟨rfl, Below.then hB3 hb4⟩
  · go_enter Try.func8, Try.ntmps8
    go_wp2
    go_ret
    exact ⟨rfl, Below.refl _ _⟩
end Go.Proofs.Ytokpcdclaifkpaa
