/- The fewest phrases of a text as a plain function of a table; one letter more is at most one phrase more. -/
import Derived.Test.YtkgdifngijeenaaO
namespace Go.Proofs.Ytkgdifngijeenaa
open Go.RowKit
set_option linter.unusedVariables false

/-- How many letters two lists have in common from their heads on. -/
def lcp : List UInt8 → List UInt8 → Nat
  | x :: xs, y :: ys => if x = y then lcp xs ys + 1 else 0
  | _, _ => 0
theorem lcp_nil (u : List UInt8) : lcp u [] = 0 := by cases u <;> rfl
theorem lcp_le : ∀ u v : List UInt8, lcp u v ≤ v.length
  | [], v => Nat.zero_le _
  | x :: xs, [] => Nat.le_refl _
  | x :: xs, y :: ys => by
    unfold lcp; split
    · have := lcp_le xs ys; simp only [List.length_cons]; omega
    · exact Nat.zero_le _
theorem lcp_cut (z : UInt8) : ∀ u v : List UInt8, v.length ≤ u.length → lcp u v = min (lcp (u ++ [z]) (v ++ [z])) v.length
  | u, [], _ => by rw [lcp_nil]; simp
  | [], y :: ys, h => by simp at h
  | x :: xs, y :: ys, h => by
    simp only [List.cons_append, lcp, List.length_cons]
    by_cases e : x = y
    · rw [if_pos e, if_pos e, lcp_cut z xs ys (by simpa using h)]; omega
    · rw [if_neg e, if_neg e]; omega
/-- The longest row ahead of 'p' that begins below 'n': where, and how long. -/
def bestTo (s : List UInt8) (p : Nat) : Nat → Int × Nat
  | 0 => (-1, 0)
  | i + 1 => if (bestTo s p i).2 < lcp (s.drop i) (s.drop p) then ((i : Int), lcp (s.drop i) (s.drop p)) else bestTo s p i
def best (s : List UInt8) (p : Nat) : Int × Nat := bestTo s p p
theorem bestTo_le (s : List UInt8) (p : Nat) (n : Nat) : (bestTo s p n).2 ≤ s.length - p := by
  induction n with
  | zero => exact Nat.zero_le _
  | succ n ih =>
    unfold bestTo; split
    · have := lcp_le (s.drop n) (s.drop p); rw [List.length_drop] at this; exact this
    · exact ih
theorem bestTo_cut (t : List UInt8) (z : UInt8) (p : Nat) (hp : p ≤ t.length) (n : Nat) (hn : n ≤ p) : (bestTo t p n).2 = min (bestTo (t ++ [z]) p n).2 (t.length - p) := by
  induction n with
  | zero => show 0 = min 0 _; omega
  | succ n ih =>
    have ih := ih (by omega)
    have e := lcp_cut z (t.drop n) (t.drop p) (by rw [List.length_drop, List.length_drop]; omega)
    rw [List.length_drop, ← List.drop_append_of_le_length (by omega), ← List.drop_append_of_le_length hp] at e
    unfold bestTo
    by_cases h1 : (bestTo t p n).2 < lcp (t.drop n) (t.drop p) <;> by_cases h2 : (bestTo (t ++ [z]) p n).2 < lcp ((t ++ [z]).drop n) ((t ++ [z]).drop p)
    · rw [if_pos h1, if_pos h2]; exact e
    · rw [if_pos h1, if_neg h2]; show lcp _ _ = _; omega
    · rw [if_neg h1, if_pos h2]; show _ = min (lcp _ _) _; omega
    · rw [if_neg h1, if_neg h2]; exact ih

/-- The least of T at p + 1 up to p + n, of the first at least. -/
def minTo (T : Nat → Int) (p : Nat) : Nat → Int
  | 0 => T (p + 1)
  | n + 1 => min (minTo T p n) (T (p + n + 1))
theorem minTo_one (T : Nat → Int) (p : Nat) : minTo T p 1 = minTo T p 0 := by show min (T (p + 1)) (T (p + 0 + 1)) = T (p + 1); rw [Nat.add_zero]; omega
theorem minTo_first (T : Nat → Int) (p n : Nat) : minTo T p n ≤ T (p + 1) := by
  induction n with
  | zero => exact Int.le_refl _
  | succ n ih => unfold minTo; omega
theorem minTo_le (T : Nat → Int) (p n : Nat) : ∀ j, 1 ≤ j → j ≤ n → minTo T p n ≤ T (p + j) := by
  induction n with
  | zero => intro j h1 h2; omega
  | succ n ih =>
    intro j h1 h2
    unfold minTo
    by_cases e : j = n + 1
    · subst e; rw [← Nat.add_assoc]; omega
    · have := ih j h1 (by omega); omega
theorem minTo_ex (T : Nat → Int) (p n : Nat) : ∃ j, 1 ≤ j ∧ (j ≤ n ∨ j = 1) ∧ minTo T p n = T (p + j) := by
  induction n with
  | zero => exact ⟨1, by omega, .inr rfl, rfl⟩
  | succ n ih =>
    obtain ⟨j, h1, h2, h3⟩ := ih
    unfold minTo
    by_cases h : minTo T p n ≤ T (p + n + 1)
    · exact ⟨j, h1, by omega, by rw [← h3]; omega⟩
    · exact ⟨n + 1, by omega, .inl (by omega), by rw [← Nat.add_assoc]; omega⟩
theorem minTo_congr {T T' : Nat → Int} {p : Nat} (h : ∀ i, p < i → T i = T' i) (n : Nat) : minTo T p n = minTo T' p n := by
  induction n with
  | zero => exact h _ (by omega)
  | succ n ih => unfold minTo; rw [ih, h _ (by omega)]

/-- The table of the fewest phrases while it is filled from the end: m places are told. -/
def few (s : List UInt8) : Nat → Nat → Int
  | 0 => fun _ => 0
  | m + 1 => fun i => if i = s.length - (m + 1) then 1 + minTo (few s m) i (best s i).2 else few s m i
theorem few_stay (s : List UInt8) (m i : Nat) (hi : s.length - m ≤ i) (k : Nat) (hk : m + k ≤ s.length) : few s (m + k) i = few s m i := by
  induction k with
  | zero => rfl
  | succ k ih =>
    rw [← Nat.add_assoc]
    show (if i = s.length - (m + k + 1) then _ else few s (m + k) i) = _
    rw [if_neg (by omega)]
    exact ih (by omega)
theorem few_out (s : List UInt8) (m i : Nat) (hi : s.length ≤ i) (hm : m ≤ s.length) : few s m i = 0 := by
  have := few_stay s 0 i (by omega) m (by omega)
  rw [Nat.zero_add] at this; exact this
theorem few_at (s : List UInt8) (i : Nat) (hi : i < s.length) : few s s.length i = 1 + minTo (few s s.length) i (best s i).2 := by
  obtain ⟨m, hm⟩ : ∃ m, s.length = i + (m + 1) := ⟨s.length - i - 1, by omega⟩
  have h1 := few_stay s (m + 1) i (by omega) i (by omega)
  rw [show m + 1 + i = s.length by omega] at h1
  have h2 : few s (m + 1) i = 1 + minTo (few s m) i (best s i).2 := by
    show (if i = s.length - (m + 1) then _ else _) = _
    rw [if_pos (by omega)]
  rw [h1, h2]
  congr 1
  refine minTo_congr (fun j hj => ?_) _
  have h3 := few_stay s m j (by omega) (i + 1) (by omega)
  rw [show m + (i + 1) = s.length by omega] at h3
  exact h3.symm
theorem few_bound (s : List UInt8) (m i : Nat) : 0 ≤ few s m i ∧ few s m i ≤ m := by
  induction m generalizing i with
  | zero => exact ⟨Int.le_refl _, Int.le_refl _⟩
  | succ m ih =>
    show 0 ≤ (if i = s.length - (m + 1) then _ else few s m i) ∧ (if i = s.length - (m + 1) then _ else few s m i) ≤ _
    split
    · obtain ⟨j, _, _, e⟩ := minTo_ex (few s m) i (best s i).2
      have := ih (i + j); omega
    · have := ih i; omega

/-- One letter more is at most one phrase more, and none less. -/
theorem few_step (t : List UInt8) (z : UInt8) (d : Nat) : ∀ i, t.length - i = d → i ≤ t.length →
    few t t.length i ≤ few (t ++ [z]) (t ++ [z]).length i ∧ few (t ++ [z]) (t ++ [z]).length i ≤ few t t.length i + 1 := by
  induction d using Nat.strongRecOn with
  | _ d ih =>
    intro i hd hi
    have hl : (t ++ [z]).length = t.length + 1 := by simp
    have hend : few (t ++ [z]) (t ++ [z]).length (t.length + 1) = 0 := few_out _ _ _ (by omega) (Nat.le_refl _)
    have hbs : (best (t ++ [z]) i).2 ≤ t.length + 1 - i := by have := bestTo_le (t ++ [z]) i i; rw [hl] at this; exact this
    have hs := few_at (t ++ [z]) i (by omega)
    obtain ⟨j, j1, j2, j3⟩ := minTo_ex (few (t ++ [z]) (t ++ [z]).length) i (best (t ++ [z]) i).2
    by_cases e : i = t.length
    · have h1 : few t t.length i = 0 := few_out _ _ _ (by omega) (Nat.le_refl _)
      have hj : j = 1 := by omega
      subst e
      rw [hs, j3, hj, hend, h1]; omega
    · have hlt : i < t.length := by omega
      have hb : (best t i).2 = min (best (t ++ [z]) i).2 (t.length - i) := bestTo_cut t z i hi i (Nat.le_refl _)
      have ht := few_at t i hlt
      constructor
      · by_cases hj : i + j ≤ t.length
        · have h1 := (ih (t.length - (i + j)) (by omega) (i + j) rfl hj).1
          have h2 : minTo (few t t.length) i (best t i).2 ≤ few t t.length (i + j) := by
            rcases j2 with h | h
            · exact minTo_le _ _ _ j j1 (by omega)
            · rw [h]; exact minTo_first _ _ _
          omega
        · have e1 : i + j = t.length + 1 := by omega
          have h2 : minTo (few t t.length) i (best t i).2 ≤ few t t.length (i + (t.length - i)) := minTo_le _ _ _ _ (by omega) (by omega)
          have h3 : few t t.length (i + (t.length - i)) = 0 := few_out _ _ _ (by omega) (Nat.le_refl _)
          rw [e1, hend] at j3
          omega
      · obtain ⟨q, q1, q2, q3⟩ := minTo_ex (few t t.length) i (best t i).2
        have hq : i + q ≤ t.length := by omega
        have h1 := (ih (t.length - (i + q)) (by omega) (i + q) rfl hq).2
        have h2 : minTo (few (t ++ [z]) (t ++ [z]).length) i (best (t ++ [z]) i).2 ≤ few (t ++ [z]) (t ++ [z]).length (i + q) := by
          rcases q2 with h | h
          · exact minTo_le _ _ _ q q1 (by omega)
          · rw [h]; exact minTo_first _ _ _
        omega
end Go.Proofs.Ytkgdifngijeenaa
