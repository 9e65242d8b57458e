/- The walks of IsRow, the reference's and the program's. -/
import Derived.Test.YtokpcdclaifkpaaI
import Derived.Lib.Strings
namespace Go.Proofs.Ytokpcdclaifkpaa
open Go.RowKit
set_option linter.unusedVariables false

/-- What is left of w behind one letter. -/
def rowStep : List UInt8 → UInt8 → List UInt8
  | [], _ => []
  | d :: w, c => if c = d then w else d :: w
def rowRest (s w : List UInt8) : List UInt8 := s.foldl rowStep w
theorem rowRest_nil (s : List UInt8) : rowRest s [] = [] := by
  induction s with
  | nil => rfl
  | cons c s ih => exact ih
theorem rowRest_snoc (s : ByteArray) (w : List UInt8) (k : Nat) (h : k < s.size) : rowRest (s.data.toList.take (k + 1)) w = rowStep (rowRest (s.data.toList.take k) w) s[k] := by
  rw [take_snoc s k h]; simp [rowRest, List.foldl_append]

theorem byte_eq {a b : UInt8} (h : ((a.toNat : Int) == b.toNat) = true) : a = b := by
  have := of_decide_eq_true h; exact UInt8.toNat_inj.1 (by omega)
theorem byte_ne {a b : UInt8} (h : ((a.toNat : Int) == b.toNat) = false) : a ≠ b := by
  intro e; subst e; simp at h
theorem drop_cons (t : ByteArray) (j : Nat) (h : j < t.size) : t.data.toList.drop j = t[j] :: t.data.toList.drop (j + 1) := by
  rw [List.drop_eq_getElem_cons (by simpa using h)]; rfl
theorem row_yes {s t : ByteArray} {n j : Nat} (hn : n < s.size) (hj : j < t.size) (hd : t.data.toList.drop j = rowRest (s.data.toList.take n) t.data.toList) (he : s[n] = t[j]) :
    t.data.toList.drop (j + 1) = rowRest (s.data.toList.take (n + 1)) t.data.toList := by
  rw [rowRest_snoc s _ n hn, ← hd, drop_cons t j hj, rowStep, if_pos he]
theorem row_no {s t : ByteArray} {n j : Nat} (hn : n < s.size) (hj : j < t.size) (hd : t.data.toList.drop j = rowRest (s.data.toList.take n) t.data.toList) (he : s[n] ≠ t[j]) :
    t.data.toList.drop j = rowRest (s.data.toList.take (n + 1)) t.data.toList := by
  rw [rowRest_snoc s _ n hn, ← hd, drop_cons t j hj, rowStep, if_neg he]
theorem row_end {s t : ByteArray} {n j : Nat} (hj : j ≤ t.size) (hd : t.data.toList.drop j = rowRest (s.data.toList.take n) t.data.toList) (he : ¬ n < s.size ∨ ¬ j < t.size) :
    ((j : Int) == t.size) = (rowRest s.data.toList t.data.toList).isEmpty := by
  have e : rowRest s.data.toList t.data.toList = t.data.toList.drop j := by
    by_cases hn : n < s.size
    · have hjt : t.data.toList.drop j = [] := List.drop_of_length_le (by simp; omega)
      rw [hjt]
      have := List.take_append_drop n s.data.toList
      rw [← this]; unfold rowRest; rw [List.foldl_append]
      show rowRest _ (rowRest _ _) = _
      rw [← hd, hjt, rowRest_nil]
    · rw [List.take_of_length_le (by simp; omega)] at hd; exact hd.symm
  rw [e, Bool.eq_iff_iff]; simp; omega

set_option maxHeartbeats 400000 in
theorem s_isRow (s t : ByteArray) (w : World) (hs : s.size ≤ maxLen) (ht : t.size ≤ maxLen) :
    Calls Try.prog 68 #[.string s, .string t] w fun e w' => e = .returned (.bool (rowRest s.data.toList t.data.toList).isEmpty) ∧ Below w.heap.size w w' := by
  unfold maxLen at hs ht
  go_enter Try.func68, Try.ntmps68
  go_wp2
  go_loopw [5, 6] (fun k i wr => ∃ j n : Nat, j ≤ t.size ∧ n ≤ s.size ∧ k = .int .i64 j ∧ i = .int .i64 n ∧ t.data.toList.drop j = rowRest (s.data.toList.take n) t.data.toList ∧ Below w.heap.size w wr) (fun _ i _ => s.size - (intOf i).toNat)
  case atStart => exact ⟨0, 0, Nat.zero_le _, Nat.zero_le _, rfl, rfl, rfl, Below.refl _ _⟩
  case round =>
    obtain ⟨j, n, hj, hn, rfl, rfl, hd, hb⟩ := hrel
    have HD := Lib.hid hd; clear hd
    by_cases h1 : n < s.size
    · by_cases h2 : j < t.size
      · go_wp2
        go_quiet (fail)
        go_wp2
        · go_roundw
          case rel => exact ⟨j + 1, n + 1, by omega, by omega, by go_num, by go_num, row_yes h1 h2 HD.out (byte_eq ‹_›), below_drewN hb _⟩
          case measure => simp [intOf]; omega
        · go_roundw
          case rel => exact ⟨j, n + 1, by omega, by omega, by go_num, by go_num, row_no h1 h2 HD.out (byte_ne ‹_›), below_drewN hb _⟩
          case measure => simp [intOf]; omega
      · go_wp2
        go_ret
        exact ⟨ret_bool (row_end hj HD.out (.inr h2)), hb⟩
    · go_wp2
      go_ret
      exact ⟨ret_bool (row_end hj HD.out (.inl h1)), hb⟩

def isRowB (s t : ByteArray) : Bool := vt s.data.toList && vt t.data.toList && (rowRest s.data.toList t.data.toList).isEmpty
theorem s_IsRow0 (s t : ByteArray) (w : World) (hs : s.size ≤ maxLen) (ht : t.size ≤ maxLen) :
    Calls Try.prog 48 #[.string s, .string t] w fun e w' => e = .returned (.bool (vt s.data.toList && vt t.data.toList && (rowRest s.data.toList t.data.toList).isEmpty)) ∧ Below w.heap.size w w' := by
  cases h1 : vt s.data.toList <;> cases h2 : vt t.data.toList <;>
  (go_enter Try.func48, Try.ntmps48
   go_wp2_with (first | (go_at_call 56; refine (s_validText _ _ (by assumption)).mono ?_; rintro e w' ⟨rfl, rfl⟩) | (go_at_call 68; refine (s_isRow _ _ _ hs ht).mono ?_; rintro e w1 ⟨rfl, hb⟩))
   go_ret
   first | exact ⟨rfl, Below.refl _ _⟩ | exact ⟨rfl, hb⟩)

theorem emp_yes {u : ByteArray} (h : ¬ 0 < u.size) : u.toList.isEmpty = true := by
  rw [Lib.toList_data]; have : u.data.toList.length = 0 := by rw [Array.length_toList]; show u.size = 0; omega
  rw [List.length_eq_zero_iff.1 this]; rfl
theorem emp_no {u : ByteArray} (h : 0 < u.size) : u.toList.isEmpty = false := by
  rw [Lib.toList_data]; have : 0 < u.data.toList.length := by simpa using h
  cases e : u.data.toList with
  | nil => rw [e] at this; simp at this
  | cons a l => rfl
theorem cut_head (u : ByteArray) (h : 0 < u.size) : (u.extract 1 u.size).data.toList = u.data.toList.drop 1 := by
  rw [Lib.extract_data, List.take_of_length_le (by simp)]
theorem rest_yes {s t u : ByteArray} {k : Nat} (hk : k < s.size) (h0 : 0 < u.size) (hu : u.data.toList = rowRest (s.data.toList.take k) t.data.toList) (he : s[k] = u[0]) :
    (u.extract 1 u.size).data.toList = rowRest (s.data.toList.take (k + 1)) t.data.toList := by
  rw [cut_head u h0, rowRest_snoc s _ k hk, ← hu]
  have e := drop_cons u 0 h0
  rw [List.drop_zero] at e
  rw [e, rowStep, if_pos he]; rfl
theorem rest_no {s t u : ByteArray} {k : Nat} (hk : k < s.size) (h0 : 0 < u.size) (hu : u.data.toList = rowRest (s.data.toList.take k) t.data.toList) (he : s[k] ≠ u[0]) :
    u.data.toList = rowRest (s.data.toList.take (k + 1)) t.data.toList := by
  have e := drop_cons u 0 h0
  rw [List.drop_zero] at e
  rw [rowRest_snoc s _ k hk, ← hu, e, rowStep, if_neg he]
theorem rest_nil {s t u : ByteArray} {k : Nat} (hk : k < s.size) (h0 : ¬ 0 < u.size) (hu : u.data.toList = rowRest (s.data.toList.take k) t.data.toList) :
    u.data.toList = rowRest (s.data.toList.take (k + 1)) t.data.toList := by
  have e : u.data.toList = [] := List.length_eq_zero_iff.1 (by rw [Array.length_toList]; show u.size = 0; omega)
  rw [rowRest_snoc s _ k hk, ← hu, e]; rfl
theorem vt_okc {s : ByteArray} (h : vt s.data.toList = true) (k : Nat) (hk : k < s.size) : okc s[k] = true := by
  unfold vt at h; rw [Bool.and_eq_true, List.all_eq_true] at h
  exact h.1 _ (by show s.data[k] ∈ _; simp)
theorem vt_ascii {s : ByteArray} (h : vt s.data.toList = true) (k : Nat) (hk : k < s.size) : s[k].toNat < 128 := by
  have := vt_okc h k hk; unfold okc at this; rw [Bool.and_eq_true, decide_eq_true_eq, decide_eq_true_eq] at this; omega

set_option maxHeartbeats 400000 in
theorem i_IsRow0 (s t : ByteArray) (w : World) (hs : s.size ≤ maxLen) (ht : t.size ≤ maxLen) :
    Calls Try.prog 39 #[.string s, .string t] w fun e w' => e = .returned (.bool (vt s.data.toList && vt t.data.toList && (rowRest s.data.toList t.data.toList).isEmpty)) ∧ Below w.heap.size w w' := by
  cases h1 : vt s.data.toList
  · go_enter Try.func39, Try.ntmps39
    go_wp2_with (first | (go_at_call 18; refine (i_ValidText _ _ (by assumption)).mono ?_; rintro e w' ⟨rfl, hb⟩))
    go_ret
    exact ⟨rfl, hb⟩
  · cases h2 : vt t.data.toList
    · go_enter Try.func39, Try.ntmps39
      go_wp2_with fail
      refine (i_ValidText _ _ hs).mono ?_; rintro e w1 ⟨rfl, hb1⟩
      go_wp2_with fail
      refine (i_ValidText _ _ ht).mono ?_; rintro e w2 ⟨rfl, hb2⟩
      go_wp2
      go_ret
      exact ⟨rfl, hb1.trans (hb2.mono hb1.size)⟩
    · have hs' := hs; have ht' := ht; unfold maxLen at hs' ht'
      go_enter Try.func39, Try.ntmps39
      go_wp2_with fail
      refine (i_ValidText _ _ hs).mono ?_; rintro e w1 ⟨rfl, hb1⟩
      go_wp2_with fail
      refine (i_ValidText _ _ ht).mono ?_; rintro e w2 ⟨rfl, hb2⟩
      go_wp2
      have hb12 := hb1.trans (hb2.mono hb1.size)
      have hsz : w.heap.size ≤ w2.heap.size := hb12.size
      have HV := Lib.hid h1; clear h1 h2
      go_loopw [1] (fun v wr => ∃ (k : Nat) (u : ByteArray), v = .string u ∧ k ≤ s.size ∧ u.size ≤ t.size ∧ u.data.toList = rowRest (s.data.toList.take k) t.data.toList ∧ wr.heap[w2.heap.size]? = some (.stringIter s k) ∧ Below w.heap.size w wr) (fun _ wr => s.size - wr.iterPos w2.heap.size)
      case atStart => exact ⟨0, t, rfl, Nat.zero_le _, Nat.le_refl _, rfl, World.iter_heap _ _ _, hb12.alloc hsz _⟩
      case round =>
        obtain ⟨k, u, rfl, hk, hut, hu, hit, hb⟩ := hrel
        have HU := Lib.hid hu; clear hu
        by_cases hlt : k < s.size
        · have hnx : ∀ ty, (Instr.next (.pointer (some ⟨w2.heap.size, 0, none⟩)) true ty).run Try.prog wr = _ := fun ty => Lib.run_next_ascii_at wr w2.heap.size s k ty hit hlt (vt_ascii HV.out k hlt)
          have hit2 := Lib.iterAt_heap wr w2.heap.size s k (k + 1) hit
          have hb2 := Lib.below_iterAt hb (k := w2.heap.size) (by omega) s (k + 1)
          by_cases hu0 : 0 < u.size
          · have hne := emp_no hu0
            go_wp2
            go_quiet (fail)
            go_wp2
            · go_roundw
              case rel => exact ⟨k + 1, _, rfl, by omega, by simp; omega, rest_yes hlt hu0 HU.out (byte_eq ‹_›), hit2, below_drewN hb2 _⟩
              case measure => simp [World.iterPos, hit2, hit]; omega
            · go_roundw
              case rel => exact ⟨k + 1, u, rfl, by omega, hut, rest_no hlt hu0 HU.out (byte_ne ‹_›), hit2, below_drewN hb2 _⟩
              case measure => simp [World.iterPos, hit2, hit]; omega
          · have hne := emp_yes hu0
            go_wp2
            go_quiet (fail)
            go_wp2
            go_roundw
            case rel => exact ⟨k + 1, u, rfl, by omega, hut, rest_nil hlt hu0 HU.out, hit2, below_drewN hb2 _⟩
            case measure => simp [World.iterPos, hit2, hit]; omega
        · have hnx : ∀ ty, (Instr.next (.pointer (some ⟨w2.heap.size, 0, none⟩)) true ty).run Try.prog wr = _ := fun ty => Lib.run_next_end_at wr w2.heap.size s k ty hit hlt
          go_wp2
          go_ret
          refine ⟨ret_bool ?_, hb⟩
          have e := HU.out
          rw [List.take_of_length_le (by simp; omega)] at e
          simp only [Bool.true_and]
          rw [← e, Lib.toList_data]
theorem s_IsRow (s t : ByteArray) (w : World) (hs : s.size ≤ maxLen) (ht : t.size ≤ maxLen) :
    Calls Try.prog 48 #[.string s, .string t] w fun e w' => e = .returned (.bool (isRowB s t)) ∧ Below w.heap.size w w' := s_IsRow0 s t w hs ht
theorem i_IsRow (s t : ByteArray) (w : World) (hs : s.size ≤ maxLen) (ht : t.size ≤ maxLen) :
    Calls Try.prog 39 #[.string s, .string t] w fun e w' => e = .returned (.bool (isRowB s t)) ∧ Below w.heap.size w w' := i_IsRow0 s t w hs ht
end Go.Proofs.Ytokpcdclaifkpaa
