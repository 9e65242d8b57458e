/- The walks of PeriodsOf, the reference's and the program's. -/
import Derived.Test.YtpabgagfkicobaaA
namespace Go.Proofs.Ytpabgagfkicobaa
open Go.RowKit
set_option linter.unusedVariables false

def perB (s : List UInt8) (p : Nat) : Bool := decide (s.drop p = s.take (s.length - p))
def periods (s : List UInt8) : List Int := if vt s then sel (perB s) 1 s.length else []
theorem periods_yes {s : List UInt8} (h : vt s = true) : periods s = sel (perB s) 1 s.length := by rw [periods, if_pos h]
theorem periods_no {s : List UInt8} (h : vt s = false) : periods s = [] := by rw [periods, if_neg (by rw [h]; decide)]

theorem cut_from (s : ByteArray) (k : Nat) : (s.extract k s.size).data.toList = s.data.toList.drop k := by
  rw [Lib.extract_data, List.take_of_length_le (by rw [List.length_drop, list_len]; omega)]
theorem cut_less (s : ByteArray) (k : Nat) : (s.extract 0 (s.size - k)).data.toList = s.data.toList.take (s.data.toList.length - k) := by
  rw [pre_take, list_len]
theorem perB_yes {s : ByteArray} {k : Nat} (h : ((s.extract k s.size).toList == (s.extract 0 (s.size - k)).toList) = true) : perB s.data.toList k = true := by
  have := str_eq h; rw [cut_from, cut_less] at this; exact decide_eq_true this
theorem perB_no {s : ByteArray} {k : Nat} (h : ((s.extract k s.size).toList == (s.extract 0 (s.size - k)).toList) = false) : perB s.data.toList k = false := by
  have := str_ne h; rw [cut_from, cut_less] at this; exact decide_eq_false this
theorem vt_size {s : ByteArray} (h : vt s.data.toList = true) : s.size ≤ 40 := by
  unfold vt at h; rw [Bool.and_eq_true, decide_eq_true_eq, list_len] at h; exact h.2
theorem sel_next {P : Nat → Bool} {k : Nat} (h0 : 1 ≤ k) (h : P k = true) : sel P 1 k = sel P 1 (k - 1) ++ [(k : Int)] := by
  obtain ⟨m, rfl⟩ : ∃ m, k = m + 1 := ⟨k - 1, by omega⟩
  rw [sel_yes (by rw [Nat.add_comm]; exact h), Nat.add_comm 1 m]; rfl
theorem sel_same {P : Nat → Bool} {k : Nat} (h0 : 1 ≤ k) (h : P k = false) : sel P 1 k = sel P 1 (k - 1) := by
  obtain ⟨m, rfl⟩ : ∃ m, k = m + 1 := ⟨k - 1, by omega⟩
  rw [sel_no (by rw [Nat.add_comm]; exact h)]; rfl

/-- What one round does to the row of numbers chosen so far. -/
theorem sel_app {P : Nat → Bool} {k lo : Nat} {w' : World} {v' : Value} (h0 : 1 ≤ k) (h : P k = true) (ho : w'.ownsRow lo 3 1 v' ((sel P 1 (k - 1)).length + 1) (ints (sel P 1 (k - 1) ++ [(k : Int)]))) :
    w'.ownsRow lo 3 1 v' (sel P 1 (k + 1 - 1)).length (ints (sel P 1 (k + 1 - 1))) := by
  rw [show k + 1 - 1 = k from rfl, sel_next h0 h]; simpa using ho
theorem sel_keep {P : Nat → Bool} {k lo : Nat} {w' : World} {v' : Value} (h0 : 1 ≤ k) (h : P k = false) (ho : w'.ownsRow lo 3 1 v' (sel P 1 (k - 1)).length (ints (sel P 1 (k - 1)))) :
    w'.ownsRow lo 3 1 v' (sel P 1 (k + 1 - 1)).length (ints (sel P 1 (k + 1 - 1))) := by
  rw [show k + 1 - 1 = k from rfl, sel_same h0 h]; exact ho

theorem ret_nil (w w' : World) (hb : Below w.heap.size w w') : RetInts [] w (.returned (.slice none 0 0)) w' :=
  ⟨none, 0, 0, rfl, Lib.hid rfl, by omega, Row.nil _ _ _ _, hb⟩


/-- The reference's test of a period, letter by letter. -/
def perAt (s : ByteArray) (p i : Nat) : Bool := s.data.toList[i]?.getD 0 == s.data.toList[i + p]?.getD 0
theorem perAt_eq (s : ByteArray) (p n : Nat) (hn : n = s.size - p) (hp : p ≤ s.size) : allTo (perAt s p) n = perB s.data.toList p := by
  subst hn
  rw [Bool.eq_iff_iff, allTo_iff]
  unfold perB
  rw [decide_eq_true_eq, list_len]
  constructor
  · intro h
    apply List.ext_getElem
    · simp
    · intro i h1 h2
      have hi : i < s.size - p := by simpa [list_len] using h1
      have e := h i hi
      unfold perAt at e
      have e := LawfulBEq.eq_of_beq e
      rw [List.getElem?_eq_getElem (by rw [list_len]; omega), List.getElem?_eq_getElem (by rw [list_len]; omega)] at e
      simp only [Option.getD_some] at e
      simp only [List.getElem_drop, List.getElem_take, Nat.add_comm p i]
      exact e.symm
  · intro h i hi
    have h1 : i < (s.data.toList.drop p).length := by rw [List.length_drop, list_len]; exact hi
    have e : (s.data.toList.drop p)[i]? = (s.data.toList.take (s.size - p))[i]? := by rw [h]
    rw [List.getElem?_drop, List.getElem?_take_of_lt hi] at e
    unfold perAt
    rw [Nat.add_comm i p, e]; exact beq_self_eq_true _
theorem byte_get (s : ByteArray) (i : Nat) (h : i < s.size) : s.data.toList[i]?.getD 0 = s[i] := by
  rw [List.getElem?_eq_getElem (by rw [list_len]; exact h)]; rfl

theorem perAt_at (s : ByteArray) (k m : Nat) (h1 : m < s.size) (h2 : m + k < s.size) : perAt s k m = ((s[m].toNat : Int) == s[m + k].toNat) := by
  unfold perAt; rw [byte_get s m h1, byte_get s _ h2]
  rw [Bool.eq_iff_iff, beq_iff_eq, beq_iff_eq]
  constructor
  · intro h; rw [h]
  · intro h; exact UInt8.toNat_inj.1 (by omega)

end Go.Proofs.Ytpabgagfkicobaa
