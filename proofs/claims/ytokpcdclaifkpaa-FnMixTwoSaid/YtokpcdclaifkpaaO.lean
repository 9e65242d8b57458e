/- The walks of OverlapOf, the reference's and the program's, and of strings.HasSuffix, strings.HasPrefix. -/
import Derived.Test.YtokpcdclaifkpaaR
import Derived.Lib.Strings
namespace Go.Proofs.Ytokpcdclaifkpaa
open Go.RowKit
set_option linter.unusedVariables false

def ovFrom (a b : List UInt8) : Nat → Nat
  | 0 => 0
  | n + 1 => if a.drop (a.length - (n + 1)) = b.take (n + 1) then n + 1 else ovFrom a b n
def ov (a b : List UInt8) : Nat := ovFrom a b (min a.length b.length - 1)

theorem list_len (s : ByteArray) : s.data.toList.length = s.size := by rw [Array.length_toList]; rfl
/-- Equality of strings as the walk has it. -/
theorem str_eq {a b : ByteArray} (h : (a.toList == b.toList) = true) : a.data.toList = b.data.toList := by
  rw [Lib.toList_data, Lib.toList_data] at h; exact LawfulBEq.eq_of_beq h
theorem str_ne {a b : ByteArray} (h : (a.toList == b.toList) = false) : a.data.toList ≠ b.data.toList := by
  intro e; rw [Lib.toList_data, Lib.toList_data, e] at h; simp at h
theorem suf_take (s : ByteArray) (k : Nat) : (s.extract (s.size - k) s.size).data.toList = s.data.toList.drop (s.data.toList.length - k) := by
  rw [Lib.extract_data, list_len, List.take_of_length_le (by rw [List.length_drop, list_len]; omega)]
theorem pre_take (s : ByteArray) (k : Nat) : (s.extract 0 k).data.toList = s.data.toList.take k := by
  rw [Lib.extract_data]; simp
theorem ov_yes {a b : ByteArray} {n : Nat} (h0 : 0 < n) (he : (a.extract (a.size - n) a.size).data.toList = (b.extract 0 n).data.toList) : ovFrom a.data.toList b.data.toList n = n := by
  rw [suf_take, pre_take] at he
  obtain ⟨m, rfl⟩ : ∃ m, n = m + 1 := ⟨n - 1, by omega⟩
  rw [ovFrom, if_pos he]
theorem ov_no {a b : ByteArray} {n : Nat} (h0 : 0 < n) (he : (a.extract (a.size - n) a.size).data.toList ≠ (b.extract 0 n).data.toList) : ovFrom a.data.toList b.data.toList n = ovFrom a.data.toList b.data.toList (n - 1) := by
  rw [suf_take, pre_take] at he
  obtain ⟨m, rfl⟩ : ∃ m, n = m + 1 := ⟨n - 1, by omega⟩
  rw [ovFrom, if_neg he]; rfl

set_option maxHeartbeats 400000 in
theorem l_hasSuffix (s p : ByteArray) (w : World) (hs : s.size ≤ maxLen) (hp : p.size ≤ maxLen) :
    Calls Try.prog 79 #[.string s, .string p] w fun e w' => e = .returned (.bool (Lib.hasSuffix s.data.toList p.data.toList)) ∧ w = w' := by
  unfold maxLen at hs hp
  rw [← Lib.hasSuffix_raw]
  by_cases h : p.size ≤ s.size
  · go_enter Try.func79, Try.ntmps79
    go_wp2
    go_ret
    simp [h]
  · go_enter Try.func79, Try.ntmps79
    go_wp2
    go_ret
    simp [h]

theorem l_HasSuffix (s p : ByteArray) (w : World) (hs : s.size ≤ maxLen) (hp : p.size ≤ maxLen) :
    Calls Try.prog 75 #[.string s, .string p] w fun e w' => e = .returned (.bool (Lib.hasSuffix s.data.toList p.data.toList)) ∧ w = w' := by
  go_enter Try.func75, Try.ntmps75
  go_wp2_with fail
  refine (l_hasSuffix s p _ hs hp).mono ?_; rintro e w' ⟨rfl, rfl⟩
  go_wp2
  go_ret
  exact ⟨rfl, rfl⟩

theorem suf_yes {a b : ByteArray} {n : Nat} (h0 : 0 < n) (hb : n ≤ b.size) (h : Lib.hasSuffix a.data.toList (List.take n b.data.toList) = true) (ha : n ≤ a.size) : ovFrom a.data.toList b.data.toList n = n := by
  rw [← pre_take, ← Lib.hasSuffix_raw] at h
  have e : (b.extract 0 n).size = n := by rw [ByteArray.size_extract]; omega
  rw [Bool.and_eq_true, e] at h
  exact ov_yes h0 (str_eq h.2)
theorem suf_no {a b : ByteArray} {n : Nat} (h0 : 0 < n) (hb : n ≤ b.size) (h : Lib.hasSuffix a.data.toList (List.take n b.data.toList) = false) (ha : n ≤ a.size) : ovFrom a.data.toList b.data.toList n = ovFrom a.data.toList b.data.toList (n - 1) := by
  rw [← pre_take, ← Lib.hasSuffix_raw] at h
  have e : (b.extract 0 n).size = n := by rw [ByteArray.size_extract]; omega
  rw [e, decide_eq_true (p := n ≤ a.size) ha, Bool.true_and] at h
  exact ov_no h0 (str_ne h)

set_option maxHeartbeats 1000000 in
theorem s_overlap (a b : ByteArray) (w : World) (ha : a.size ≤ maxLen) (hb : b.size ≤ maxLen) :
    Calls Try.prog 62 #[.string a, .string b] w fun e w' => e = .returned (.int .i64 (ov a.data.toList b.data.toList)) ∧ Below w.heap.size w w' := by
  unfold maxLen at ha hb
  have la := list_len a; have lb := list_len b
  have HO := Lib.hid (show ov a.data.toList b.data.toList = ovFrom a.data.toList b.data.toList (min a.size b.size - 1) by rw [← la, ← lb]; rfl)
  clear la lb
  rcases Nat.lt_or_ge b.size a.size with hba | hba <;>
  (go_enter Try.func62, Try.ntmps62
   go_wp2
   go_loopw [5] (fun k wr => ∃ n : Int, -1 ≤ n ∧ n < a.size ∧ n < b.size ∧ k = .int .i64 n ∧ ov a.data.toList b.data.toList = ovFrom a.data.toList b.data.toList n.toNat ∧ Below w.heap.size w wr) (fun k _ => (intOf k).toNat)
   case atStart => exact ⟨_, by omega, by omega, by omega, rfl, by rw [HO.out]; congr 1; omega, Below.refl _ _⟩
   case round =>
    obtain ⟨n, hn, hna, hnb, rfl, hov, hw⟩ := hrel
    have HV := Lib.hid hov; clear hov
    by_cases h0 : 0 < n
    · obtain ⟨m, rfl⟩ := Int.eq_ofNat_of_zero_le (show 0 ≤ n by omega)
      go_wp2
      go_quiet (fail)
      go_wp2
      · have h0' : 0 < m := by omega
        go_ret
        exact ⟨ret_int (by rw [HV.out, Int.toNat_natCast, ov_yes h0' (str_eq ‹_›)]), below_drewN hw _⟩
      · have h0' : 0 < m := by omega
        go_roundw
        case rel => exact ⟨m - 1, by omega, by omega, by omega, rfl, by rw [HV.out, Int.toNat_natCast, ov_no h0' (str_ne ‹_›)]; congr 1; omega, below_drewN hw _⟩
        case measure => simp [intOf]; omega
    · go_wp2
      go_ret
      exact ⟨ret_int (by rw [HV.out, show n.toNat = 0 from by omega]; rfl), hw⟩)

set_option maxHeartbeats 1000000 in
theorem i_overlap (a b : ByteArray) (w : World) (ha : a.size ≤ maxLen) (hb : b.size ≤ maxLen) :
    Calls Try.prog 61 #[.string a, .string b] w fun e w' => e = .returned (.int .i64 (ov a.data.toList b.data.toList)) ∧ w = w' := by
  have ha' := ha; have hb' := hb
  unfold maxLen at ha hb
  have la := list_len a; have lb := list_len b
  have HO := Lib.hid (show ov a.data.toList b.data.toList = ovFrom a.data.toList b.data.toList (min a.size b.size - 1) by rw [← la, ← lb]; rfl)
  clear la lb
  rcases Nat.lt_or_ge b.size a.size with hba | hba <;>
  (go_enter Try.func61, Try.ntmps61
   go_wp2
   go_loop [5] (fun k => ∃ n : Int, -1 ≤ n ∧ n < a.size ∧ n < b.size ∧ k = .int .i64 n ∧ ov a.data.toList b.data.toList = ovFrom a.data.toList b.data.toList n.toNat) (fun k => (intOf k).toNat)
   case atStart => exact ⟨_, by omega, by omega, by omega, rfl, by rw [HO.out]; congr 1; omega⟩
   case round =>
    obtain ⟨n, hn, hna, hnb, rfl, hov⟩ := hrel
    have HV := Lib.hid hov; clear hov
    by_cases h0 : 0 < n
    · obtain ⟨m, rfl⟩ := Int.eq_ofNat_of_zero_le (show 0 ≤ n by omega)
      have h0' : 0 < m := by omega
      have hmb : m ≤ b.size := by omega
      have hma : m ≤ a.size := by omega
      go_wp2_with fail
      refine (l_HasSuffix a (b.extract 0 m) _ ha' (by rw [ByteArray.size_extract]; omega)).mono ?_; rintro e w' ⟨rfl, rfl⟩
      go_wp2
      · go_ret
        exact ⟨ret_int (by rw [HV.out, Int.toNat_natCast, suf_yes h0' hmb ‹_› hma]), rfl⟩
      · go_round
        case rel => exact ⟨m - 1, by omega, by omega, by omega, rfl, by rw [HV.out, Int.toNat_natCast, suf_no h0' hmb ‹_› hma]; congr 1; omega⟩
        case measure => simp [intOf]; omega
    · go_wp2
      go_ret
      exact ⟨ret_int (by rw [HV.out, show n.toNat = 0 from by omega]; rfl), rfl⟩)

def overlapI (a b : ByteArray) : Int := if vt a.data.toList && vt b.data.toList then ov a.data.toList b.data.toList else -1
theorem overlapI_yes {a b : ByteArray} (h1 : vt a.data.toList = true) (h2 : vt b.data.toList = true) : overlapI a b = ov a.data.toList b.data.toList := by simp [overlapI, h1, h2]
theorem overlapI_no {a b : ByteArray} (h : vt a.data.toList = false ∨ vt b.data.toList = false) : overlapI a b = -1 := by rcases h with h | h <;> simp [overlapI, h]

set_option maxHeartbeats 400000 in
theorem s_OverlapOf (s t : ByteArray) (w : World) (hs : s.size ≤ maxLen) (ht : t.size ≤ maxLen) :
    Calls Try.prog 27 #[.string s, .string t] w fun e w' => e = .returned (.int .i64 (overlapI s t)) ∧ Below w.heap.size w w' := by
  cases h1 : vt s.data.toList
  · go_enter Try.func27, Try.ntmps27
    go_wp2_with (go_at_call 56; refine (s_validText _ _ (by assumption)).mono ?_; rintro e w' ⟨rfl, rfl⟩)
    go_ret
    exact ⟨ret_int (overlapI_no (.inl h1)).symm, Below.refl _ _⟩
  · cases h2 : vt t.data.toList
    · go_enter Try.func27, Try.ntmps27
      go_wp2_with (go_at_call 56; refine (s_validText _ _ (by assumption)).mono ?_; rintro e w' ⟨rfl, rfl⟩)
      go_ret
      exact ⟨ret_int (overlapI_no (.inr h2)).symm, Below.refl _ _⟩
    · go_enter Try.func27, Try.ntmps27
      go_wp2_with (first | (go_at_call 56; refine (s_validText _ _ (by assumption)).mono ?_; rintro e w' ⟨rfl, rfl⟩) | (go_at_call 62; refine (s_overlap _ _ _ hs ht).mono ?_; rintro e w1 ⟨rfl, hb⟩))
      go_ret
      exact ⟨ret_int (overlapI_yes h1 h2).symm, hb⟩

set_option maxHeartbeats 400000 in
theorem i_OverlapOf (s t : ByteArray) (w : World) (hs : s.size ≤ maxLen) (ht : t.size ≤ maxLen) :
    Calls Try.prog 26 #[.string s, .string t] w fun e w' => e = .returned (.int .i64 (overlapI s t)) ∧ Below w.heap.size w w' := by
  cases h1 : vt s.data.toList
  · go_enter Try.func26, Try.ntmps26
    go_wp2_with fail
    refine (i_ValidText _ _ hs).mono ?_; rintro e w1 ⟨rfl, hb1⟩
    go_wp2
    go_ret
    exact ⟨ret_int (overlapI_no (.inl h1)).symm, hb1⟩
  · cases h2 : vt t.data.toList
    · go_enter Try.func26, Try.ntmps26
      go_wp2_with fail
      refine (i_ValidText _ _ hs).mono ?_; rintro e w1 ⟨rfl, hb1⟩
      go_wp2_with fail
      refine (i_ValidText _ _ ht).mono ?_; rintro e w2 ⟨rfl, hb2⟩
      go_wp2
      go_ret
      exact ⟨ret_int (overlapI_no (.inr h2)).symm, hb1.trans (hb2.mono hb1.size)⟩
    · go_enter Try.func26, Try.ntmps26
      go_wp2_with fail
      refine (i_ValidText _ _ hs).mono ?_; rintro e w1 ⟨rfl, hb1⟩
      go_wp2_with fail
      refine (i_ValidText _ _ ht).mono ?_; rintro e w2 ⟨rfl, hb2⟩
      go_wp2_with fail
      refine (i_overlap _ _ _ hs ht).mono ?_; rintro e w3 ⟨rfl, rfl⟩
      go_wp2
      go_ret
      exact ⟨ret_int (overlapI_yes h1 h2).symm, hb1.trans (hb2.mono hb1.size)⟩
end Go.Proofs.Ytokpcdclaifkpaa
