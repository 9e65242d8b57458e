/- The walks of OverlapOf, the reference's and the program's, and of strings.HasSuffix, strings.HasPrefix. -/
import Derived.Test.YtknocepgfjebpaaDoorR
import Derived.Lib.Strings
namespace Go.Proofs.YtknocepgfjebpaaDoor
open Go.RowKit
set_option linter.unusedVariables false

def ovFrom (a b : List UInt8) : Nat → Nat
  | 0 => 0
  | n + 1 => if a.drop (a.length - (n + 1)) = b.take (n + 1) then n + 1 else ovFrom a b n
def ov (a b : List UInt8) : Nat := ovFrom a b (min a.length b.length - 1)

theorem list_len (s : ByteArray) : s.data.toList.length = s.size := by rw [Array.length_toList]; rfl
/-- Equality of strings as the walk has it. -/
theorem str_eq {a b : ByteArray} (h : (a.toList == b.toList) = true) : a.data.toList = b.data.toList := by
  rw [Lib.toList_data, Lib.toList_data] at h; exact LawfulBEq.eq_of_beq h
theorem str_ne {a b : ByteArray} (h : (a.toList == b.toList) = false) : a.data.toList ≠ b.data.toList := by
  intro e; rw [Lib.toList_data, Lib.toList_data, e] at h; simp at h
theorem suf_take (s : ByteArray) (k : Nat) : (s.extract (s.size - k) s.size).data.toList = s.data.toList.drop (s.data.toList.length - k) := by
  rw [Lib.extract_data, list_len, List.take_of_length_le (by rw [List.length_drop, list_len]; omega)]
theorem pre_take (s : ByteArray) (k : Nat) : (s.extract 0 k).data.toList = s.data.toList.take k := by
  rw [Lib.extract_data]; simp
theorem ov_yes {a b : ByteArray} {n : Nat} (h0 : 0 < n) (he : (a.extract (a.size - n) a.size).data.toList = (b.extract 0 n).data.toList) : ovFrom a.data.toList b.data.toList n = n := by
  rw [suf_take, pre_take] at he
  obtain ⟨m, rfl⟩ : ∃ m, n = m + 1 := ⟨n - 1, by omega⟩
  rw [ovFrom, if_pos he]
theorem ov_no {a b : ByteArray} {n : Nat} (h0 : 0 < n) (he : (a.extract (a.size - n) a.size).data.toList ≠ (b.extract 0 n).data.toList) : ovFrom a.data.toList b.data.toList n = ovFrom a.data.toList b.data.toList (n - 1) := by
  rw [suf_take, pre_take] at he
  obtain ⟨m, rfl⟩ : ∃ m, n = m + 1 := ⟨n - 1, by omega⟩
  rw [ovFrom, if_neg he]; rfl



theorem suf_yes {a b : ByteArray} {n : Nat} (h0 : 0 < n) (hb : n ≤ b.size) (h : Lib.hasSuffix a.data.toList (List.take n b.data.toList) = true) (ha : n ≤ a.size) : ovFrom a.data.toList b.data.toList n = n := by
  rw [← pre_take, ← Lib.hasSuffix_raw] at h
  have e : (b.extract 0 n).size = n := by rw [ByteArray.size_extract]; omega
  rw [Bool.and_eq_true, e] at h
  exact ov_yes h0 (str_eq h.2)
theorem suf_no {a b : ByteArray} {n : Nat} (h0 : 0 < n) (hb : n ≤ b.size) (h : Lib.hasSuffix a.data.toList (List.take n b.data.toList) = false) (ha : n ≤ a.size) : ovFrom a.data.toList b.data.toList n = ovFrom a.data.toList b.data.toList (n - 1) := by
  rw [← pre_take, ← Lib.hasSuffix_raw] at h
  have e : (b.extract 0 n).size = n := by rw [ByteArray.size_extract]; omega
  rw [e, decide_eq_true (p := n ≤ a.size) ha, Bool.true_and] at h
  exact ov_no h0 (str_ne h)



def overlapI (a b : ByteArray) : Int := if vt a.data.toList && vt b.data.toList then ov a.data.toList b.data.toList else -1
theorem overlapI_yes {a b : ByteArray} (h1 : vt a.data.toList = true) (h2 : vt b.data.toList = true) : overlapI a b = ov a.data.toList b.data.toList := by simp [overlapI, h1, h2]
theorem overlapI_no {a b : ByteArray} (h : vt a.data.toList = false ∨ vt b.data.toList = false) : overlapI a b = -1 := by rcases h with h | h <;> simp [overlapI, h]


end Go.Proofs.YtknocepgfjebpaaDoor
