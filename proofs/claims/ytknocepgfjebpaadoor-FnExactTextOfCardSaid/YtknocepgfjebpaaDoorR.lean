/- The walks of IsRow, the reference's and the program's. -/
import Derived.Test.YtknocepgfjebpaaDoorI
import Derived.Lib.Strings
namespace Go.Proofs.YtknocepgfjebpaaDoor
open Go.RowKit
set_option linter.unusedVariables false

/-- What is left of w behind one letter. -/
def rowStep : List UInt8 → UInt8 → List UInt8
  | [], _ => []
  | d :: w, c => if c = d then w else d :: w
def rowRest (s w : List UInt8) : List UInt8 := s.foldl rowStep w
theorem rowRest_nil (s : List UInt8) : rowRest s [] = [] := by
  induction s with
  | nil => rfl
  | cons c s ih => exact ih
theorem rowRest_snoc (s : ByteArray) (w : List UInt8) (k : Nat) (h : k < s.size) : rowRest (s.data.toList.take (k + 1)) w = rowStep (rowRest (s.data.toList.take k) w) s[k] := by
  rw [take_snoc s k h]; simp [rowRest, List.foldl_append]

theorem byte_eq {a b : UInt8} (h : ((a.toNat : Int) == b.toNat) = true) : a = b := by
  have := of_decide_eq_true h; exact UInt8.toNat_inj.1 (by omega)
theorem byte_ne {a b : UInt8} (h : ((a.toNat : Int) == b.toNat) = false) : a ≠ b := by
  intro e; subst e; simp at h
theorem drop_cons (t : ByteArray) (j : Nat) (h : j < t.size) : t.data.toList.drop j = t[j] :: t.data.toList.drop (j + 1) := by
  rw [List.drop_eq_getElem_cons (by simpa using h)]; rfl
theorem row_yes {s t : ByteArray} {n j : Nat} (hn : n < s.size) (hj : j < t.size) (hd : t.data.toList.drop j = rowRest (s.data.toList.take n) t.data.toList) (he : s[n] = t[j]) :
    t.data.toList.drop (j + 1) = rowRest (s.data.toList.take (n + 1)) t.data.toList := by
  rw [rowRest_snoc s _ n hn, ← hd, drop_cons t j hj, rowStep, if_pos he]
theorem row_no {s t : ByteArray} {n j : Nat} (hn : n < s.size) (hj : j < t.size) (hd : t.data.toList.drop j = rowRest (s.data.toList.take n) t.data.toList) (he : s[n] ≠ t[j]) :
    t.data.toList.drop j = rowRest (s.data.toList.take (n + 1)) t.data.toList := by
  rw [rowRest_snoc s _ n hn, ← hd, drop_cons t j hj, rowStep, if_neg he]
theorem row_end {s t : ByteArray} {n j : Nat} (hj : j ≤ t.size) (hd : t.data.toList.drop j = rowRest (s.data.toList.take n) t.data.toList) (he : ¬ n < s.size ∨ ¬ j < t.size) :
    ((j : Int) == t.size) = (rowRest s.data.toList t.data.toList).isEmpty := by
  have e : rowRest s.data.toList t.data.toList = t.data.toList.drop j := by
    by_cases hn : n < s.size
    · have hjt : t.data.toList.drop j = [] := List.drop_of_length_le (by simp; omega)
      rw [hjt]
      have := List.take_append_drop n s.data.toList
      rw [← this]; unfold rowRest; rw [List.foldl_append]
      show rowRest _ (rowRest _ _) = _
      rw [← hd, hjt, rowRest_nil]
    · rw [List.take_of_length_le (by simp; omega)] at hd; exact hd.symm
  rw [e, Bool.eq_iff_iff]; simp; omega


def isRowB (s t : ByteArray) : Bool := vt s.data.toList && vt t.data.toList && (rowRest s.data.toList t.data.toList).isEmpty

theorem emp_yes {u : ByteArray} (h : ¬ 0 < u.size) : u.toList.isEmpty = true := by
  rw [Lib.toList_data]; have : u.data.toList.length = 0 := by rw [Array.length_toList]; show u.size = 0; omega
  rw [List.length_eq_zero_iff.1 this]; rfl
theorem emp_no {u : ByteArray} (h : 0 < u.size) : u.toList.isEmpty = false := by
  rw [Lib.toList_data]; have : 0 < u.data.toList.length := by simpa using h
  cases e : u.data.toList with
  | nil => rw [e] at this; simp at this
  | cons a l => rfl
theorem cut_head (u : ByteArray) (h : 0 < u.size) : (u.extract 1 u.size).data.toList = u.data.toList.drop 1 := by
  rw [Lib.extract_data, List.take_of_length_le (by simp)]
theorem rest_yes {s t u : ByteArray} {k : Nat} (hk : k < s.size) (h0 : 0 < u.size) (hu : u.data.toList = rowRest (s.data.toList.take k) t.data.toList) (he : s[k] = u[0]) :
    (u.extract 1 u.size).data.toList = rowRest (s.data.toList.take (k + 1)) t.data.toList := by
  rw [cut_head u h0, rowRest_snoc s _ k hk, ← hu]
  have e := drop_cons u 0 h0
  rw [List.drop_zero] at e
  rw [e, rowStep, if_pos he]; rfl
theorem rest_no {s t u : ByteArray} {k : Nat} (hk : k < s.size) (h0 : 0 < u.size) (hu : u.data.toList = rowRest (s.data.toList.take k) t.data.toList) (he : s[k] ≠ u[0]) :
    u.data.toList = rowRest (s.data.toList.take (k + 1)) t.data.toList := by
  have e := drop_cons u 0 h0
  rw [List.drop_zero] at e
  rw [rowRest_snoc s _ k hk, ← hu, e, rowStep, if_neg he]
theorem rest_nil {s t u : ByteArray} {k : Nat} (hk : k < s.size) (h0 : ¬ 0 < u.size) (hu : u.data.toList = rowRest (s.data.toList.take k) t.data.toList) :
    u.data.toList = rowRest (s.data.toList.take (k + 1)) t.data.toList := by
  have e : u.data.toList = [] := List.length_eq_zero_iff.1 (by rw [Array.length_toList]; show u.size = 0; omega)
  rw [rowRest_snoc s _ k hk, ← hu, e]; rfl
theorem vt_okc {s : ByteArray} (h : vt s.data.toList = true) (k : Nat) (hk : k < s.size) : okc s[k] = true := by
  unfold vt at h; rw [Bool.and_eq_true, List.all_eq_true] at h
  exact h.1 _ (by show s.data[k] ∈ _; simp)
theorem vt_ascii {s : ByteArray} (h : vt s.data.toList = true) (k : Nat) (hk : k < s.size) : s[k].toNat < 128 := by
  have := vt_okc h k hk; unfold okc at this; rw [Bool.and_eq_true, decide_eq_true_eq, decide_eq_true_eq] at this; omega

end Go.Proofs.YtknocepgfjebpaaDoor
