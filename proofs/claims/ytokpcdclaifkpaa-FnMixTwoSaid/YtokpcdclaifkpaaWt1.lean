/- Walks of the laws FnValidText, FnHasWord, FnIsRow over drawn texts. -/
import Derived.Test.YtokpcdclaifkpaaOpB
import Derived.Test.YtokpcdclaifkpaaH
namespace Go.Proofs.Ytokpcdclaifkpaa
open Go.RowKit
set_option linter.unusedVariables false

theorem Below.then {W a b : World} (h : Below W.heap.size W a) (k : Below a.heap.size a b) : Below W.heap.size W b := h.trans (k.mono h.size)
theorem vt_tail {s : ByteArray} (h : vt s.data.toList = true) : vt (s.extract 1 s.size).data.toList = true := by
  unfold vt at *
  rw [Bool.and_eq_true, decide_eq_true_eq, List.all_eq_true] at *
  rw [cut_from]
  refine ⟨fun x hx => h.1 x (List.mem_of_mem_drop hx), ?_⟩
  rw [List.length_drop]; omega
theorem size41 {s : ByteArray} (h : s.size ≤ 41) : s.size ≤ maxLen := by unfold maxLen; omega
theorem emp_no' {u : ByteArray} (h : u.data.toList.isEmpty = false) : u.toList.isEmpty = false := by rw [emp_list]; exact h
theorem emp_yes' {u : ByteArray} (h : u.data.toList.isEmpty = true) : u.toList.isEmpty = true := by rw [emp_list]; exact h

set_option maxHeartbeats 1000000 in
theorem walk_FnValidText (pa : Option Addr) (n cap : Nat) (w : World) (hx : CodeAt w pa n cap) :
    Calls Try.prog 4 #[.slice pa n cap] w fun e w' => e = .returned (.bool true) ∧ Below w.heap.size w w' := by
  have hcap := hx.2.1; have hnc := hx.1
  unfold maxLen at hcap
  have HC := Lib.hid hx; clear hx
  by_cases hn : n ≤ 1048576
  · go_enter Try.func4, Try.ntmps4
    go_wp2_with fail
    refine (d_DrawValidText _ _ _ _ HC.out).mono ?_; rintro e w1 ⟨s, rfl, hs, hb1⟩
    go_wp2_with fail
    refine (i_ValidText s _ (size41 hs)).mono ?_; rintro e w2 ⟨rfl, hb2⟩
    have hB2 := Below.then hb1 hb2; clear hb1 hb2
    go_wp2_with fail
    refine (s_ValidText s _ (size41 hs)).mono ?_; rintro e w3 ⟨rfl, rfl⟩
    cases h1 : vt s.data.toList
    · go_wp2_with fail
      refine (s_ValidText s _ (size41 hs)).mono ?_; rintro e w3 ⟨rfl, rfl⟩
      go_wp2
      go_ret
      exact ⟨rfl, hB2⟩
    · by_cases h0 : 0 < s.size
      · have he := emp_no h0
        have ht := vt_tail h1
        have HT := Lib.hid ht; clear ht
        have hsx : (s.extract 1 s.size).size ≤ 41 := by rw [ByteArray.size_extract]; omega
        go_wp2_with fail
        refine (i_ValidText (s.extract 1 s.size) _ (size41 hsx)).mono ?_; rintro e w4 ⟨rfl, hb4⟩
        rw [HT.out]
        go_wp2
        go_ret
        exact ⟨rfl, Below.then hB2 hb4⟩
      · have he := emp_yes h0
        go_wp2
        go_ret
        exact ⟨rfl, hB2⟩
  · go_enter Try.func4, Try.ntmps4
    go_wp2
    go_ret
    exact ⟨rfl, Below.refl _ _⟩

theorem hasB_places {s t : ByteArray} (h1 : vt s.data.toList = true) (h2 : vt t.data.toList = true) (h3 : t.data.toList.isEmpty = false) {n : Nat} (hn : (placesOf s.data.toList t.data.toList).length = n) : hasWordB s t = decide (0 < n) := by
  subst hn
  unfold hasWordB
  rw [placesOf_yes h1 h2 h3, h1, h2, Bool.true_and, Bool.true_and, Bool.eq_iff_iff, hasB_iff, decide_eq_true_eq]
  have ht0 : 0 < t.data.toList.length := by rw [list_len]; exact size_pos h3
  unfold placesL
  constructor
  · rintro ⟨i, hi, ha⟩
    have := atB_lt ha ht0
    obtain ⟨ys, hy⟩ := sel_prefix (atB s.data.toList t.data.toList) 0 (i + 1) s.data.toList.length (by omega)
    rw [hy, sel_yes (by rw [Nat.zero_add]; exact ha)]
    simp; omega
  · intro h
    obtain ⟨x, hx⟩ := List.exists_mem_of_length_pos h
    have : ∀ m, x ∈ sel (atB s.data.toList t.data.toList) 0 m → ∃ i, i < m ∧ atB s.data.toList t.data.toList i = true := by
      intro m
      induction m with
      | zero => intro h; cases h
      | succ m ih =>
        intro h
        cases hP : atB s.data.toList t.data.toList (0 + m) with
        | false => rw [sel_no hP] at h; obtain ⟨i, h1, h2⟩ := ih h; exact ⟨i, by omega, h2⟩
        | true => exact ⟨m, by omega, by rw [Nat.zero_add] at hP; exact hP⟩
    obtain ⟨i, h1, h2⟩ := this _ hx
    exact ⟨i, by omega, h2⟩
theorem hasB_empty {s t : ByteArray} (h1 : vt s.data.toList = true) (h2 : vt t.data.toList = true) (h3 : t.data.toList.isEmpty = true) : hasWordB s t = true := by
  unfold hasWordB
  rw [h1, h2, Bool.true_and, Bool.true_and, hasB_iff]
  have : t.data.toList = [] := List.isEmpty_iff.1 h3
  exact ⟨0, Nat.zero_le _, by rw [this]; rfl⟩

set_option maxHeartbeats 2000000 in
theorem walk_FnHasWord (pa : Option Addr) (n cap : Nat) (w : World) (hx : CodeAt w pa n cap) (hm : MaxAt w) :
    Calls Try.prog 3 #[.slice pa n cap] w fun e w' => e = .returned (.bool true) ∧ Below w.heap.size w w' := by
  have hcap := hx.2.1; have hnc := hx.1
  unfold maxLen at hcap
  have HC := Lib.hid hx; clear hx
  have HM := Lib.hid hm; clear hm
  by_cases hn : n ≤ 1048576
  · go_enter Try.func3, Try.ntmps3
    go_wp2_with fail
    refine (d_DrawHasWord _ _ _ _ HC.out).mono ?_; rintro e w1 ⟨s, t, rfl, hs, ht, hb1⟩
    go_wp2_with fail
    refine (i_HasWord s t _ (size41 hs) (size41 ht) (HM.out.kept hb1)).mono ?_; rintro e w2 ⟨rfl, hb2⟩
    have hB2 := Below.then hb1 hb2; clear hb1 hb2
    go_wp2_with fail
    refine (s_HasWord s t _ (size41 hs) (size41 ht)).mono ?_; rintro e w3 ⟨rfl, hb3⟩
    have hB3 := Below.then hB2 hb3; clear hB2 hb3
    go_wp2_with fail
    refine (i_ValidText s _ (size41 hs)).mono ?_; rintro e w4 ⟨rfl, hb4⟩
    have hB4 := Below.then hB3 hb4; clear hB3 hb4
    cases h1 : vt s.data.toList
    · go_wp2_with fail
      refine (s_HasWord s t _ (size41 hs) (size41 ht)).mono ?_; rintro e w5 ⟨rfl, hb5⟩
      go_wp2
      go_ret
      exact ⟨rfl, Below.then hB4 hb5⟩
    · go_wp2_with fail
      refine (i_ValidText t _ (size41 ht)).mono ?_; rintro e w5 ⟨rfl, hb5⟩
      have hB5 := Below.then hB4 hb5; clear hB4 hb5
      cases h2 : vt t.data.toList
      · go_wp2_with fail
        refine (s_HasWord s t _ (size41 hs) (size41 ht)).mono ?_; rintro e w6 ⟨rfl, hb6⟩
        go_wp2
        go_ret
        exact ⟨rfl, Below.then hB5 hb6⟩
      · cases h3 : t.data.toList.isEmpty
        · have he := emp_no' h3
          go_wp2_with fail
          refine (i_PlacesOf s t _ (size41 hs) (size41 ht)).mono ?_; rintro e w6 ⟨pb, m, cb, rfl, HN, hle, _, hb6⟩
          have hp := hasB_places h1 h2 h3 HN.out
          by_cases hm0 : 0 < m
          · rw [decide_eq_true hm0] at hp
            go_wp2
            go_ret
            exact ⟨rfl, Below.then hB5 hb6⟩
          · rw [decide_eq_false hm0] at hp
            go_wp2
            go_ret
            exact ⟨rfl, Below.then hB5 hb6⟩
        · have he := emp_yes' h3
          have hp := hasB_empty h1 h2 h3
          go_wp2
          go_ret
          exact ⟨rfl, hB5⟩
  · go_enter Try.func3, Try.ntmps3
    go_wp2
    go_ret
    exact ⟨rfl, Below.refl _ _⟩

theorem rowRest_mono (s : List UInt8) : ∀ w : List UInt8, (rowRest s w).length ≤ w.length := by
  induction s with
  | nil => intro w; exact Nat.le_refl _
  | cons c s ih =>
    intro w
    show (rowRest s (rowStep w c)).length ≤ _
    refine Nat.le_trans (ih _) ?_
    cases w with
    | nil => exact Nat.le_refl _
    | cons d w => rw [rowStep]; split <;> simp
theorem rowRest_self (s : List UInt8) : rowRest s s = [] := by
  induction s with
  | nil => rfl
  | cons c s ih => show rowRest s (rowStep (c :: s) c) = []; rw [rowStep, if_pos rfl]; exact ih
theorem rowRest_append (a b w : List UInt8) : rowRest (a ++ b) w = rowRest b (rowRest a w) := by unfold rowRest; rw [List.foldl_append]
/-- What is left of a word is an end of it. -/
theorem rowRest_suffix (s : List UInt8) : ∀ w : List UInt8, ∃ k, rowRest s w = w.drop k := by
  induction s with
  | nil => intro w; exact ⟨0, rfl⟩
  | cons c s ih =>
    intro w
    show ∃ k, rowRest s (rowStep w c) = _
    cases w with
    | nil => obtain ⟨k, hk⟩ := ih []; exact ⟨k, hk⟩
    | cons d w =>
      rw [rowStep]; split
      · obtain ⟨k, hk⟩ := ih w; exact ⟨k + 1, by rw [hk]; rfl⟩
      · obtain ⟨k, hk⟩ := ih (d :: w); exact ⟨k, hk⟩
/-- A shorter end is left sooner. -/
theorem rowRest_drop (s : List UInt8) : ∀ (w : List UInt8) (k : Nat), rowRest s w = [] → rowRest s (w.drop k) = [] := by
  induction s with
  | nil => intro w k h; have h' : w = [] := h; subst h'; simp [rowRest]
  | cons c s ih =>
    intro w k h
    cases w with
    | nil => rw [List.drop_nil]; exact rowRest_nil _
    | cons d w =>
      cases k with
      | zero => exact h
      | succ k =>
        rw [List.drop_succ_cons]
        have h' : rowRest s (rowStep (d :: w) c) = [] := h
        show rowRest s (rowStep (w.drop k) c) = []
        have key : rowRest s (w.drop k) = [] := by
          rw [rowStep] at h'; split at h'
          · exact ih w k h'
          · have := ih (d :: w) (k + 1) h'; rwa [List.drop_succ_cons] at this
        cases e : w.drop k with
        | nil => rw [e] at key; exact key
        | cons x v =>
          rw [e] at key
          rw [rowStep]; split
          · have := ih (x :: v) 1 key; exact this
          · exact key
/-- A word that stands in a text is a row of it. -/
theorem row_of_has {s w : List UInt8} (h : hasB s w = true) : (rowRest s w).isEmpty = true := by
  obtain ⟨i, _, ha⟩ := (hasB_iff s w).1 h
  have e := of_decide_eq_true ha
  have hs : s = s.take i ++ ((s.drop i).take w.length ++ (s.drop i).drop w.length) := by rw [List.take_append_drop, List.take_append_drop]
  rw [hs, rowRest_append, rowRest_append, e]
  obtain ⟨k, hk⟩ := rowRest_suffix (s.take i) w
  rw [hk, rowRest_drop w w k (rowRest_self w), rowRest_nil]; rfl
theorem isRow_self {s : ByteArray} (h : vt s.data.toList = true) : isRowB s s = true := by
  unfold isRowB; rw [h, rowRest_self]; rfl
theorem isRow_empty {s e : ByteArray} (h : vt s.data.toList = true) (he : e.data.toList = []) : isRowB s e = true := by
  unfold isRowB; rw [h, he, rowRest_nil]; rfl
theorem isRow_has {s t : ByteArray} (h1 : vt s.data.toList = true) (h2 : vt t.data.toList = true) (h : isRowB s t = false) : hasWordB s t = false := by
  unfold isRowB at h; rw [h1, h2, Bool.true_and, Bool.true_and] at h
  unfold hasWordB; rw [h1, h2, Bool.true_and, Bool.true_and]
  cases hc : hasB s.data.toList t.data.toList with
  | false => rfl
  | true => rw [row_of_has hc] at h; cases h

set_option maxHeartbeats 2000000 in
theorem walk_FnIsRow (pa : Option Addr) (n cap : Nat) (w : World) (hx : CodeAt w pa n cap) (hm : MaxAt w) :
    Calls Try.prog 12 #[.slice pa n cap] w fun e w' => e = .returned (.bool true) ∧ Below w.heap.size w w' := by
  have hcap := hx.2.1; have hnc := hx.1
  unfold maxLen at hcap
  have HC := Lib.hid hx; clear hx
  have HM := Lib.hid hm; clear hm
  by_cases hn : n ≤ 1048576
  · go_enter Try.func12, Try.ntmps12
    go_wp2_with fail
    refine (d_DrawIsRow _ _ _ _ HC.out).mono ?_; rintro e w1 ⟨s, t, rfl, hs, ht, hb1⟩
    go_wp2_with fail
    refine (i_IsRow s t _ (size41 hs) (size41 ht)).mono ?_; rintro e w2 ⟨rfl, hb2⟩
    have hB2 := Below.then hb1 hb2; clear hb1 hb2
    go_wp2_with fail
    refine (s_IsRow s t _ (size41 hs) (size41 ht)).mono ?_; rintro e w3 ⟨rfl, hb3⟩
    have hB3 := Below.then hB2 hb3; clear hB2 hb3
    go_wp2_with fail
    refine (i_ValidText s _ (size41 hs)).mono ?_; rintro e w4 ⟨rfl, hb4⟩
    have hB4 := Below.then hB3 hb4; clear hB3 hb4
    cases h1 : vt s.data.toList
    · go_wp2_with fail
      refine (s_IsRow s t _ (size41 hs) (size41 ht)).mono ?_; rintro e w5 ⟨rfl, hb5⟩
      go_wp2
      go_ret
      exact ⟨rfl, Below.then hB4 hb5⟩
    · go_wp2_with fail
      refine (i_ValidText t _ (size41 ht)).mono ?_; rintro e w5 ⟨rfl, hb5⟩
      have hB5 := Below.then hB4 hb5; clear hB4 hb5
      cases h2 : vt t.data.toList
      · go_wp2_with fail
        refine (s_IsRow s t _ (size41 hs) (size41 ht)).mono ?_; rintro e w6 ⟨rfl, hb6⟩
        go_wp2
        go_ret
        exact ⟨rfl, Below.then hB5 hb6⟩
      · have hself := isRow_self h1
        have hemp := isRow_empty (e := ⟨#[]⟩) h1 rfl
        have hme : (ByteArray.mk #[]).size ≤ maxLen := Nat.zero_le _
        cases hr : isRowB s t
        · have hh := isRow_has h1 h2 hr
          go_wp2_with fail
          refine (i_HasWord s t _ (size41 hs) (size41 ht) (HM.out.kept hB5)).mono ?_; rintro e w6 ⟨rfl, hb6⟩
          have hB6 := Below.then hB5 hb6; clear hB5 hb6
          go_wp2_with fail
          refine (i_IsRow s s _ (size41 hs) (size41 hs)).mono ?_; rintro e w7 ⟨rfl, hb7⟩
          have hB7 := Below.then hB6 hb7; clear hB6 hb7
          go_wp2_with fail
          refine (i_IsRow s ⟨#[]⟩ _ (size41 hs) hme).mono ?_; rintro e w8 ⟨rfl, hb8⟩
          go_wp2
          go_ret
          exact ⟨rfl, Below.then hB7 hb8⟩
        · go_wp2_with fail
          refine (i_IsRow s s _ (size41 hs) (size41 hs)).mono ?_; rintro e w7 ⟨rfl, hb7⟩
          have hB7 := Below.then hB5 hb7; clear hB5 hb7
          go_wp2_with fail
          refine (i_IsRow s ⟨#[]⟩ _ (size41 hs) hme).mono ?_; rintro e w8 ⟨rfl, hb8⟩
          go_wp2
          go_ret
          exact ⟨rfl, Below.then hB7 hb8⟩
  · go_enter Try.func12, Try.ntmps12
    go_wp2
    go_ret
    exact ⟨rfl, Below.refl _ _⟩
end Go.Proofs.Ytokpcdclaifkpaa
