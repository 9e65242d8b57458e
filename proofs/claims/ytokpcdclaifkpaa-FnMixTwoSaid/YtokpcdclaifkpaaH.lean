/- The walks of HasWord, the reference's and the program's; the latter leans on the contract of strings.Contains. -/
import Derived.Test.YtokpcdclaifkpaaC
import Derived.Test.YtokpcdclaifkpaaSh
namespace Go.Proofs.Ytokpcdclaifkpaa
open Go.RowKit
set_option linter.unusedVariables false

/-- w stands somewhere in s. -/
def hasB (s w : List UInt8) : Bool := (List.range (s.length + 1)).any (atB s w)
theorem hasB_iff (s w : List UInt8) : hasB s w = true ↔ ∃ i, i ≤ s.length ∧ atB s w i = true := by
  unfold hasB; rw [List.any_eq_true]
  constructor
  · rintro ⟨i, h1, h2⟩; exact ⟨i, by have := List.mem_range.1 h1; omega, h2⟩
  · rintro ⟨i, h1, h2⟩; exact ⟨i, List.mem_range.2 (by omega), h2⟩
theorem contains_hasB (s w : List UInt8) : Lib.contains s w = hasB s w := by
  have e : ∀ j, Lib.occAt s w j = atB s w j := fun j => hasPrefix_atB s w j
  rw [Bool.eq_iff_iff, hasB_iff]
  unfold Lib.contains
  rw [decide_eq_true_eq]
  rcases Lib.index_spec s w with ⟨h1, h2⟩ | ⟨i, h1, h2, h3, _⟩
  · constructor
    · intro h; omega
    · rintro ⟨i, h3, h4⟩; rw [← e, h2 i h3] at h4; cases h4
  · exact ⟨fun _ => ⟨i, h2, by rw [← e]; exact h3⟩, fun _ => by omega⟩
theorem hasB_none {s w : List UInt8} {k : Nat} (h : ∀ i, i < k → atB s w i = false) (hk : s.length < k + w.length) : hasB s w = false := by
  cases hc : hasB s w with
  | false => rfl
  | true =>
    obtain ⟨i, h1, h2⟩ := (hasB_iff s w).1 hc
    by_cases hi : i < k
    · rw [h i hi] at h2; cases h2
    · have := of_decide_eq_true h2
      have := congrArg List.length this
      rw [List.length_take, List.length_drop] at this; omega

set_option maxHeartbeats 1000000 in
theorem s_has (s t : ByteArray) (w : World) (hs : s.size ≤ 1048576) (ht : t.size ≤ 1048576) :
    Calls Try.prog 57 #[.string s, .string t] w fun e w' => e = .returned (.bool (hasB s.data.toList t.data.toList)) ∧ w = w' := by
  go_enter Try.func57, Try.ntmps57
  go_wp2
  go_loop [5] (fun i => ∃ k : Nat, k ≤ s.size + 1 ∧ i = .int .i64 k ∧ ∀ i, i < k → atB s.data.toList t.data.toList i = false) (fun i => s.size + 1 - (intOf i).toNat)
  case atStart => exact ⟨0, by omega, rfl, fun i hi => by omega⟩
  case round =>
    obtain ⟨k, hk, rfl, hno⟩ := hrel
    have HN := Lib.hid hno; clear hno
    by_cases hlt : k + t.size ≤ s.size
    · go_wp2
      · have hy := atB_yes ‹_›
        go_ret
        exact ⟨ret_bool ((hasB_iff _ _).2 ⟨k, by rw [list_len]; omega, hy⟩).symm, rfl⟩
      · have hy := atB_no ‹_›
        go_round
        case rel => exact ⟨k + 1, by omega, by go_num, fun i hi => by
          by_cases e : i = k
          · rw [e]; exact hy
          · exact HN.out i (by omega)⟩
        case measure => simp [intOf]; omega
    · go_wp2
      go_ret
      exact ⟨ret_bool (hasB_none HN.out (by rw [list_len, list_len]; omega)).symm, rfl⟩

def hasWordB (s t : ByteArray) : Bool := vt s.data.toList && vt t.data.toList && hasB s.data.toList t.data.toList
set_option maxHeartbeats 1000000 in
theorem s_HasWord0 (s t : ByteArray) (w : World) (hs : s.size ≤ maxLen) (ht : t.size ≤ maxLen) :
    Calls Try.prog 17 #[.string s, .string t] w fun e w' => e = .returned (.bool (vt s.data.toList && vt t.data.toList && hasB s.data.toList t.data.toList)) ∧ w = w' := by
  cases h1 : vt s.data.toList
  · go_enter Try.func17, Try.ntmps17
    go_wp2_with (go_at_call 56; refine (s_validText _ _ (by assumption)).mono ?_; rintro e w' ⟨rfl, rfl⟩)
    go_ret
    exact ⟨rfl, rfl⟩
  · cases h2 : vt t.data.toList
    · go_enter Try.func17, Try.ntmps17
      go_wp2_with (go_at_call 56; refine (s_validText _ _ (by assumption)).mono ?_; rintro e w' ⟨rfl, rfl⟩)
      go_ret
      exact ⟨rfl, rfl⟩
    · have hsz := vt_size h1; have htz := vt_size h2
      go_enter Try.func17, Try.ntmps17
      go_wp2_with (first | (go_at_call 56; refine (s_validText _ _ (by assumption)).mono ?_; rintro e w' ⟨rfl, rfl⟩) | (go_at_call 57; refine (s_has _ _ _ (by omega) (by omega)).mono ?_; rintro e w' ⟨rfl, rfl⟩))
      go_ret
      exact ⟨rfl, rfl⟩
/-- The library's number that strings.Contains reads is some number. -/
def MaxAt (w : World) : Prop := ∃ m, w.cell? ⟨0, 0, none⟩ = some (.int .i64 m)
theorem MaxAt.kept {w w' : World} (h : MaxAt w) (hb : Below w.heap.size w w') : MaxAt w' := by
  obtain ⟨m, hm⟩ := h
  exact ⟨m, (hb.cell (p := ⟨0, 0, none⟩) (cell_lt hm)).trans hm⟩
theorem i_Contains (s t : ByteArray) (w : World) (hs : s.size ≤ 1048576) (hm : MaxAt w) :
    Calls Try.prog 55 #[.string s, .string t] w fun e w' => e = .returned (.bool (hasB s.data.toList t.data.toList)) ∧ w = w' := by
  obtain ⟨m, hm⟩ := hm
  exact (Try.strings_Contains s t m w (by omega) hm).mono fun _ _ ⟨h1, h2⟩ => ⟨by rw [h1, contains_hasB], h2.symm⟩

set_option maxHeartbeats 1000000 in
theorem i_HasWord0 (s t : ByteArray) (w : World) (hs : s.size ≤ maxLen) (ht : t.size ≤ maxLen) (hm : MaxAt w) :
    Calls Try.prog 16 #[.string s, .string t] w fun e w' => e = .returned (.bool (vt s.data.toList && vt t.data.toList && hasB s.data.toList t.data.toList)) ∧ Below w.heap.size w w' := by
  have hb0 := Below.refl w.heap.size w
  have HM := Lib.hid hm; clear hm
  cases h1 : vt s.data.toList
  · go_enter Try.func16, Try.ntmps16
    go_wp2_with (go_at_call 18; refine (i_VT _ _ (by assumption) (by assumption)).mono ?_; rintro e w' ⟨rfl, hb⟩)
    go_ret
    exact ⟨rfl, by assumption⟩
  · cases h2 : vt t.data.toList
    · go_enter Try.func16, Try.ntmps16
      go_wp2_with (go_at_call 18; refine (i_VT _ _ (by assumption) (by assumption)).mono ?_; rintro e w' ⟨rfl, hb⟩)
      go_ret
      exact ⟨rfl, by assumption⟩
    · have hsz := vt_size h1
      go_enter Try.func16, Try.ntmps16
      go_wp2_with fail
      refine (i_VT _ _ hs hb0).mono ?_; rintro e w1 ⟨rfl, hb1⟩
      go_wp2_with fail
      refine (i_VT _ _ ht hb1).mono ?_; rintro e w2 ⟨rfl, hb2⟩
      go_wp2_with fail
      refine (i_Contains _ _ _ (by omega) (HM.out.kept hb2)).mono ?_; rintro e w3 ⟨rfl, rfl⟩
      go_wp2
      go_ret
      exact ⟨rfl, hb2⟩
theorem s_HasWord (s t : ByteArray) (w : World) (hs : s.size ≤ maxLen) (ht : t.size ≤ maxLen) :
    Calls Try.prog 17 #[.string s, .string t] w fun e w' => e = .returned (.bool (hasWordB s t)) ∧ Below w.heap.size w w' :=
  (s_HasWord0 s t w hs ht).mono fun _ _ ⟨h1, h2⟩ => ⟨h1, by rw [h2]; exact Below.refl _ _⟩
theorem i_HasWord (s t : ByteArray) (w : World) (hs : s.size ≤ maxLen) (ht : t.size ≤ maxLen) (hm : MaxAt w) :
    Calls Try.prog 16 #[.string s, .string t] w fun e w' => e = .returned (.bool (hasWordB s t)) ∧ Below w.heap.size w w' := i_HasWord0 s t w hs ht hm
theorem MaxAt.of_shaped {w : World} (h : w.ShapedOpen Try.prog) : MaxAt w := Try.laysM144.s1_3 w h
end Go.Proofs.Ytokpcdclaifkpaa
