/- The walks of IsCover and of covers, the reference's and the program's. -/
import Derived.Test.YtpabgagfkicobaaPl
namespace Go.Proofs.Ytpabgagfkicobaa
open Go.RowKit
set_option linter.unusedVariables false

def covStep (m : Nat) : Option Int → Int → Option Int
  | none, _ => none
  | some e, x => if e < x then none else some (x + m)
def covL (m : Nat) (xs : List Int) : Option Int := xs.foldl (covStep m) (some 0)
def coverB (s w : List UInt8) : Bool := decide (covL w.length (placesL s w) = some (s.length : Int))
def isCoverB (s w : ByteArray) : Bool := vt s.data.toList && vt w.data.toList && !s.data.toList.isEmpty && !w.data.toList.isEmpty && coverB s.data.toList w.data.toList

theorem covL_snoc (m : Nat) (xs : List Int) (x : Int) : covL m (xs ++ [x]) = covStep m (covL m xs) x := by simp [covL, List.foldl_append]
theorem cov_none (m : Nat) (xs : List Int) : xs.foldl (covStep m) none = none := by
  induction xs with
  | nil => rfl
  | cons x xs ih => exact ih
theorem covL_dead {m : Nat} {xs ys : List Int} {x : Int} {e : Int} (h : covL m xs = some e) (hx : e < x) : covL m (xs ++ x :: ys) = none := by
  unfold covL at *; rw [List.foldl_append, h]; show ys.foldl _ (covStep m (some e) x) = none
  rw [covStep, if_pos hx]; exact cov_none m ys
theorem sel_mem {P : Nat → Bool} {a m : Nat} {x : Int} (h : x ∈ sel P a m) : (a : Int) ≤ x ∧ x < a + m := by
  induction m with
  | zero => cases h
  | succ m ih =>
    unfold sel at h
    split at h
    · rw [List.mem_append, List.mem_singleton] at h
      rcases h with h | rfl
      · have := ih h; omega
      · omega
    · have := ih h; omega
theorem sel_prefix (P : Nat → Bool) (a m : Nat) : ∀ n, m ≤ n → ∃ ys, sel P a n = sel P a m ++ ys := by
  intro n h
  induction n with
  | zero => rw [show m = 0 by omega]; exact ⟨[], rfl⟩
  | succ n ih =>
    by_cases e : m = n + 1
    · subst e; exact ⟨[], by simp⟩
    · obtain ⟨ys, hy⟩ := ih (by omega)
      cases hP : P (a + n) with
      | true => exact ⟨ys ++ [((a + n : Nat) : Int)], by rw [sel_yes hP, hy, List.append_assoc]⟩
      | false => exact ⟨ys, by rw [sel_no hP, hy]⟩
theorem coverB_dead {s w : List UInt8} {k : Nat} {e : Int} (hk : k < s.length) (h : covL w.length (sel (atB s w) 0 k) = some e) (ha : atB s w k = true) (he : e < k) : coverB s w = false := by
  unfold coverB placesL
  obtain ⟨ys, hy⟩ := sel_prefix (atB s w) 0 (k + 1) s.length hk
  rw [hy, sel_yes (by rw [Nat.zero_add]; exact ha), List.append_assoc, Nat.zero_add]
  rw [List.singleton_append, covL_dead h he]; rfl
theorem cov_next {s w : List UInt8} {k : Nat} {e : Int} (h : covL w.length (sel (atB s w) 0 k) = some e) (ha : atB s w k = true) (he : ¬ e < k) : covL w.length (sel (atB s w) 0 (k + 1)) = some ((k : Int) + w.length) := by
  rw [sel_yes (by rw [Nat.zero_add]; exact ha), covL_snoc, h, Nat.zero_add, covStep, if_neg he]
theorem cov_skip {s w : List UInt8} {k : Nat} {e : Int} (h : covL w.length (sel (atB s w) 0 k) = some e) (ha : atB s w k = false) : covL w.length (sel (atB s w) 0 (k + 1)) = some e := by
  rw [sel_no (by rw [Nat.zero_add]; exact ha), h]
/-- Where no further place fits, the places are those so far. -/
theorem places_upto {s t : List UInt8} (ht0 : 0 < t.length) {k : Nat} (hk : s.length < k + t.length) : placesL s t = sel (atB s t) 0 k := by
  unfold placesL
  have dead : ∀ i, s.length < i + t.length → atB s t (0 + i) = false := fun i hi => by
    cases hc : atB s t (0 + i) with
    | false => rfl
    | true => have := atB_lt hc ht0; omega
  rcases Nat.le_total k s.length with hks | hks
  · exact sel_tail _ hks fun i h1 h2 => dead i (by omega)
  · exact (sel_tail _ hks fun i h1 h2 => dead i (by omega)).symm



/-- ValidText in a chain of calls. -/
theorem i_VT (s : ByteArray) {w0 : World} (w : World) (hs : s.size ≤ maxLen) (hb : Below w0.heap.size w0 w) :
    Calls Try.prog 47 #[.string s] w fun e w' => e = .returned (.bool (vt s.data.toList)) ∧ Below w0.heap.size w0 w' :=
  (i_ValidText s w hs).mono fun _ _ ⟨h1, h2⟩ => ⟨h1, hb.trans (h2.mono hb.size)⟩
theorem size_pos {s : ByteArray} (h : s.data.toList.isEmpty = false) : 0 < s.size := by
  rw [← list_len]
  cases e : s.data.toList with
  | nil => rw [e] at h; cases h
  | cons a l => simp


end Go.Proofs.Ytpabgagfkicobaa
