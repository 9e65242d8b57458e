/- The walks of IsCover and of covers, the reference's and the program's. -/
import Derived.Test.YtokpcdclaifkpaaPl
namespace Go.Proofs.Ytokpcdclaifkpaa
open Go.RowKit
set_option linter.unusedVariables false

def covStep (m : Nat) : Option Int → Int → Option Int
  | none, _ => none
  | some e, x => if e < x then none else some (x + m)
def covL (m : Nat) (xs : List Int) : Option Int := xs.foldl (covStep m) (some 0)
def coverB (s w : List UInt8) : Bool := decide (covL w.length (placesL s w) = some (s.length : Int))
def isCoverB (s w : ByteArray) : Bool := vt s.data.toList && vt w.data.toList && !s.data.toList.isEmpty && !w.data.toList.isEmpty && coverB s.data.toList w.data.toList

theorem covL_snoc (m : Nat) (xs : List Int) (x : Int) : covL m (xs ++ [x]) = covStep m (covL m xs) x := by simp [covL, List.foldl_append]
theorem cov_none (m : Nat) (xs : List Int) : xs.foldl (covStep m) none = none := by
  induction xs with
  | nil => rfl
  | cons x xs ih => exact ih
theorem covL_dead {m : Nat} {xs ys : List Int} {x : Int} {e : Int} (h : covL m xs = some e) (hx : e < x) : covL m (xs ++ x :: ys) = none := by
  unfold covL at *; rw [List.foldl_append, h]; show ys.foldl _ (covStep m (some e) x) = none
  rw [covStep, if_pos hx]; exact cov_none m ys
theorem sel_mem {P : Nat → Bool} {a m : Nat} {x : Int} (h : x ∈ sel P a m) : (a : Int) ≤ x ∧ x < a + m := by
  induction m with
  | zero => cases h
  | succ m ih =>
    unfold sel at h
    split at h
    · rw [List.mem_append, List.mem_singleton] at h
      rcases h with h | rfl
      · have := ih h; omega
      · omega
    · have := ih h; omega
theorem sel_prefix (P : Nat → Bool) (a m : Nat) : ∀ n, m ≤ n → ∃ ys, sel P a n = sel P a m ++ ys := by
  intro n h
  induction n with
  | zero => rw [show m = 0 by omega]; exact ⟨[], rfl⟩
  | succ n ih =>
    by_cases e : m = n + 1
    · subst e; exact ⟨[], by simp⟩
    · obtain ⟨ys, hy⟩ := ih (by omega)
      cases hP : P (a + n) with
      | true => exact ⟨ys ++ [((a + n : Nat) : Int)], by rw [sel_yes hP, hy, List.append_assoc]⟩
      | false => exact ⟨ys, by rw [sel_no hP, hy]⟩
theorem coverB_dead {s w : List UInt8} {k : Nat} {e : Int} (hk : k < s.length) (h : covL w.length (sel (atB s w) 0 k) = some e) (ha : atB s w k = true) (he : e < k) : coverB s w = false := by
  unfold coverB placesL
  obtain ⟨ys, hy⟩ := sel_prefix (atB s w) 0 (k + 1) s.length hk
  rw [hy, sel_yes (by rw [Nat.zero_add]; exact ha), List.append_assoc, Nat.zero_add]
  rw [List.singleton_append, covL_dead h he]; rfl
theorem cov_next {s w : List UInt8} {k : Nat} {e : Int} (h : covL w.length (sel (atB s w) 0 k) = some e) (ha : atB s w k = true) (he : ¬ e < k) : covL w.length (sel (atB s w) 0 (k + 1)) = some ((k : Int) + w.length) := by
  rw [sel_yes (by rw [Nat.zero_add]; exact ha), covL_snoc, h, Nat.zero_add, covStep, if_neg he]
theorem cov_skip {s w : List UInt8} {k : Nat} {e : Int} (h : covL w.length (sel (atB s w) 0 k) = some e) (ha : atB s w k = false) : covL w.length (sel (atB s w) 0 (k + 1)) = some e := by
  rw [sel_no (by rw [Nat.zero_add]; exact ha), h]
/-- Where no further place fits, the places are those so far. -/
theorem places_upto {s t : List UInt8} (ht0 : 0 < t.length) {k : Nat} (hk : s.length < k + t.length) : placesL s t = sel (atB s t) 0 k := by
  unfold placesL
  have dead : ∀ i, s.length < i + t.length → atB s t (0 + i) = false := fun i hi => by
    cases hc : atB s t (0 + i) with
    | false => rfl
    | true => have := atB_lt hc ht0; omega
  rcases Nat.le_total k s.length with hks | hks
  · exact sel_tail _ hks fun i h1 h2 => dead i (by omega)
  · exact (sel_tail _ hks fun i h1 h2 => dead i (by omega)).symm

set_option maxHeartbeats 1000000 in
theorem s_covers (s t : ByteArray) (w : World) (hs : s.size ≤ 40) (ht : t.size ≤ 40) (ht0 : 0 < t.size) :
    Calls Try.prog 60 #[.string s, .string t] w fun e w' => e = .returned (.bool (coverB s.data.toList t.data.toList)) ∧ w = w' := by
  go_enter Try.func60, Try.ntmps60
  go_wp2
  go_loop [5, 6] (fun v i => ∃ (k : Nat) (e : Int), k ≤ s.size + 1 ∧ 0 ≤ e ∧ e ≤ 100 ∧ i = .int .i64 k ∧ v = .int .i64 e ∧ covL t.data.toList.length (sel (atB s.data.toList t.data.toList) 0 k) = some e) (fun _ i => s.size + 1 - (intOf i).toNat)
  case atStart => exact ⟨0, 0, by omega, by omega, by omega, rfl, rfl, rfl⟩
  case round =>
    obtain ⟨k, e, hk, he0, he1, rfl, rfl, hc⟩ := hrel
    have HC := Lib.hid hc; clear hc
    by_cases hlt : k + t.size ≤ s.size
    · go_wp2
      · have hy := atB_yes ‹_›
        go_ret
        exact ⟨ret_bool (coverB_dead (by rw [list_len]; omega) HC.out hy (by omega)).symm, rfl⟩
      · have hy := atB_yes ‹_›
        go_round
        case rel => exact ⟨k + 1, _, by omega, by omega, by omega, by go_num, rfl, by rw [cov_next HC.out hy (by omega), list_len]⟩
        case measure => simp [intOf]; omega
      · have hy := atB_no ‹_›
        go_round
        case rel => exact ⟨k + 1, e, by omega, by omega, by omega, by go_num, rfl, cov_skip HC.out hy⟩
        case measure => simp [intOf]; omega
    · go_wp2
      go_ret
      refine ⟨ret_bool ?_, rfl⟩
      unfold coverB
      rw [places_upto (by rw [list_len]; exact ht0) (k := k) (by rw [list_len, list_len]; omega), HC.out, list_len]
      rw [Bool.eq_iff_iff]; simp

set_option maxHeartbeats 1000000 in
theorem i_covers (s t : ByteArray) (w : World) (hs : vt s.data.toList = true) (ht : t.size ≤ 40) :
    Calls Try.prog 59 #[.string s, .string t] w fun e w' => e = .returned (.bool (coverB s.data.toList t.data.toList)) ∧ Below w.heap.size w w' := by
  have hsz := vt_size hs
  have HV := Lib.hid hs; clear hs
  go_enter Try.func59, Try.ntmps59
  go_wp2_with fail
  refine (i_places _ _ _ HV.out (by unfold maxLen; omega)).mono ?_; rintro e w1 ⟨pa, n, ca, rfl, HN, hle, hr, hb⟩
  go_wp2
  go_loop [5, 7, 12] (fun v _ i => ∃ (k : Nat) (e : Int), k ≤ n ∧ 0 ≤ e ∧ e ≤ 100 ∧ i = .int .i64 k ∧ v = .int .i64 e ∧ covL t.data.toList.length ((placesL s.data.toList t.data.toList).take k) = some e) (fun _ _ i => n - (intOf i).toNat)
  case atStart => exact ⟨0, 0, by omega, by omega, by omega, rfl, rfl, rfl⟩
  case round =>
    obtain ⟨k, e, hk, he0, he1, rfl, rfl, hc⟩ := hrel
    have HC := Lib.hid hc; clear hc
    by_cases hlt : k < n
    · have hkl : k < (placesL s.data.toList t.data.toList).length := by rw [HN.out]; exact hlt
      obtain ⟨g, rfl, _, _, hcell, _⟩ := hr.getInt hkl
      have hx := sel_mem (List.getElem_mem hkl)
      have HX := Lib.hid (show (placesL s.data.toList t.data.toList)[k]?.getD 0 = (placesL s.data.toList t.data.toList)[k] by rw [List.getElem?_eq_getElem hkl]; rfl)
      rw [list_len] at hx
      rw [HX.out] at hcell
      have HT := Lib.hid (show (placesL s.data.toList t.data.toList).take (k + 1) = (placesL s.data.toList t.data.toList).take k ++ [(placesL s.data.toList t.data.toList)[k]] from by rw [List.take_succ_eq_append_getElem hkl])
      have HD := Lib.hid (show placesL s.data.toList t.data.toList = (placesL s.data.toList t.data.toList).take k ++ (placesL s.data.toList t.data.toList)[k] :: (placesL s.data.toList t.data.toList).drop (k + 1) from by rw [List.getElem_cons_drop, List.take_append_drop])
      generalize (placesL s.data.toList t.data.toList)[k] = x at *
      go_wp2
      · go_ret
        refine ⟨ret_bool ?_, hb⟩
        unfold coverB
        rw [HD.out, covL_dead HC.out (by omega)]; rfl
      · go_round
        case rel => exact ⟨k + 1, _, by omega, by omega, by omega, by go_num, rfl, by rw [HT.out, covL_snoc, HC.out, covStep, if_neg (by omega), list_len]⟩
        case measure => simp [intOf]; omega
    · obtain rfl : k = n := by omega
      go_wp2
      go_ret
      refine ⟨ret_bool ?_, hb⟩
      have e2 := HC.out
      rw [List.take_of_length_le (by rw [HN.out]; exact Nat.le_refl _)] at e2
      unfold coverB
      rw [e2, list_len, Bool.eq_iff_iff]; simp

/-- ValidText in a chain of calls. -/
theorem i_VT (s : ByteArray) {w0 : World} (w : World) (hs : s.size ≤ maxLen) (hb : Below w0.heap.size w0 w) :
    Calls Try.prog 18 #[.string s] w fun e w' => e = .returned (.bool (vt s.data.toList)) ∧ Below w0.heap.size w0 w' :=
  (i_ValidText s w hs).mono fun _ _ ⟨h1, h2⟩ => ⟨h1, hb.trans (h2.mono hb.size)⟩
theorem size_pos {s : ByteArray} (h : s.data.toList.isEmpty = false) : 0 < s.size := by
  rw [← list_len]
  cases e : s.data.toList with
  | nil => rw [e] at h; cases h
  | cons a l => simp

set_option maxHeartbeats 1000000 in
theorem s_IsCover0 (s t : ByteArray) (w : World) (hs : s.size ≤ maxLen) (ht : t.size ≤ maxLen) :
    Calls Try.prog 24 #[.string s, .string t] w fun e w' => e = .returned (.bool (vt s.data.toList && vt t.data.toList && !s.data.toList.isEmpty && !t.data.toList.isEmpty && coverB s.data.toList t.data.toList)) ∧ w = w' := by
  have hes := @emp_list s
  have het := @emp_list t
  cases h1 : vt s.data.toList
  · go_enter Try.func24, Try.ntmps24
    go_wp2_with (go_at_call 56; refine (s_validText _ _ (by assumption)).mono ?_; rintro e w' ⟨rfl, rfl⟩)
    go_ret
    exact ⟨rfl, rfl⟩
  · cases h2 : vt t.data.toList
    · go_enter Try.func24, Try.ntmps24
      go_wp2_with (go_at_call 56; refine (s_validText _ _ (by assumption)).mono ?_; rintro e w' ⟨rfl, rfl⟩)
      go_ret
      exact ⟨rfl, rfl⟩
    · have hsz := vt_size h1
      have htz := vt_size h2
      cases h3 : s.data.toList.isEmpty
      · rw [h3] at hes
        cases h4 : t.data.toList.isEmpty
        · rw [h4] at het
          have ht0 := size_pos h4
          go_enter Try.func24, Try.ntmps24
          go_wp2_with (first | (go_at_call 56; refine (s_validText _ _ (by assumption)).mono ?_; rintro e w' ⟨rfl, rfl⟩) | (go_at_call 60; refine (s_covers _ _ _ hsz htz ht0).mono ?_; rintro e w' ⟨rfl, rfl⟩))
          go_ret
          exact ⟨rfl, rfl⟩
        · rw [h4] at het
          go_enter Try.func24, Try.ntmps24
          go_wp2_with (go_at_call 56; refine (s_validText _ _ (by assumption)).mono ?_; rintro e w' ⟨rfl, rfl⟩)
          go_ret
          exact ⟨rfl, rfl⟩
      · rw [h3] at hes
        go_enter Try.func24, Try.ntmps24
        go_wp2_with (go_at_call 56; refine (s_validText _ _ (by assumption)).mono ?_; rintro e w' ⟨rfl, rfl⟩)
        go_ret
        exact ⟨rfl, rfl⟩

set_option maxHeartbeats 1000000 in
theorem i_IsCover0 (s t : ByteArray) (w : World) (hs : s.size ≤ maxLen) (ht : t.size ≤ maxLen) :
    Calls Try.prog 23 #[.string s, .string t] w fun e w' => e = .returned (.bool (vt s.data.toList && vt t.data.toList && !s.data.toList.isEmpty && !t.data.toList.isEmpty && coverB s.data.toList t.data.toList)) ∧ Below w.heap.size w w' := by
  have hes := @emp_list s
  have het := @emp_list t
  have hb0 := Below.refl w.heap.size w
  cases h1 : vt s.data.toList
  · go_enter Try.func23, Try.ntmps23
    go_wp2_with (go_at_call 18; refine (i_VT _ _ (by assumption) (by assumption)).mono ?_; rintro e w' ⟨rfl, hb⟩)
    go_ret
    exact ⟨rfl, by assumption⟩
  · cases h2 : vt t.data.toList
    · go_enter Try.func23, Try.ntmps23
      go_wp2_with (go_at_call 18; refine (i_VT _ _ (by assumption) (by assumption)).mono ?_; rintro e w' ⟨rfl, hb⟩)
      go_ret
      exact ⟨rfl, by assumption⟩
    · have htz := vt_size h2
      cases h3 : s.data.toList.isEmpty
      · rw [h3] at hes
        cases h4 : t.data.toList.isEmpty
        · rw [h4] at het
          have HV := Lib.hid h1
          go_enter Try.func23, Try.ntmps23
          go_wp2_with (first | (go_at_call 18; refine (i_VT _ _ (by assumption) (by assumption)).mono ?_; rintro e w' ⟨rfl, hb⟩) | (go_at_call 59; refine (i_covers _ _ _ HV.out htz).mono ?_; rintro e w3 ⟨rfl, hb3⟩))
          go_ret
          exact ⟨rfl, hb.trans (hb3.mono hb.size)⟩
        · rw [h4] at het
          go_enter Try.func23, Try.ntmps23
          go_wp2_with (go_at_call 18; refine (i_VT _ _ (by assumption) (by assumption)).mono ?_; rintro e w' ⟨rfl, hb⟩)
          go_ret
          exact ⟨rfl, by assumption⟩
      · rw [h3] at hes
        go_enter Try.func23, Try.ntmps23
        go_wp2_with (go_at_call 18; refine (i_VT _ _ (by assumption) (by assumption)).mono ?_; rintro e w' ⟨rfl, hb⟩)
        go_ret
        exact ⟨rfl, by assumption⟩
theorem s_IsCover (s t : ByteArray) (w : World) (hs : s.size ≤ maxLen) (ht : t.size ≤ maxLen) :
    Calls Try.prog 24 #[.string s, .string t] w fun e w' => e = .returned (.bool (isCoverB s t)) ∧ Below w.heap.size w w' :=
  (s_IsCover0 s t w hs ht).mono fun _ _ ⟨h1, h2⟩ => ⟨h1, by rw [h2]; exact Below.refl _ _⟩
theorem i_IsCover (s t : ByteArray) (w : World) (hs : s.size ≤ maxLen) (ht : t.size ≤ maxLen) :
    Calls Try.prog 23 #[.string s, .string t] w fun e w' => e = .returned (.bool (isCoverB s t)) ∧ Below w.heap.size w w' := i_IsCover0 s t w hs ht
end Go.Proofs.Ytokpcdclaifkpaa
