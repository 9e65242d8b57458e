/- One int appended to a slice that the call has made; worlds that differ by draws alone; lists of numbers chosen by a test. -/
import Derived.Test.YtknocepgfjebpaaDoorO
namespace Go.Proofs.YtknocepgfjebpaaDoor
open Go.RowKit
set_option linter.unusedVariables false

theorem info_int : (Tryd.prog.info? 3).map (fun i => (i.zero, i.size, i.bytes)) = some (some (.int .i64 0), 1, 8) := by kernel_rfl

/-- w' is w but for draws. -/
def Still (w w' : World) : Prop := Below w.heap.size w w' ∧ w'.heap = w.heap
theorem Still.refl (w : World) : Still w w := ⟨Below.refl _ _, rfl⟩
theorem Still.drewN {w w' : World} (h : Still w w') (n : Nat) : Still w (w'.drewN n) := ⟨below_drewN h.1 n, h.2⟩
theorem Still.trans {a b c : World} (h : Still a b) (k : Still b c) : Still a c := ⟨h.1.trans (k.1.mono (by rw [h.2]; exact Nat.le_refl _)), k.2.trans h.2⟩
theorem Still.owns {w w' : World} (h : Still w w') {lo : Nat} {e : TypeId} {size : Nat} {v : Value} {n : Nat} {xs : List Value} (ho : w.ownsRow lo e size v n xs) : w'.ownsRow lo e size v n xs := by
  unfold World.ownsRow; rw [h.2]; exact ho
theorem Still.below {w w' : World} (h : Still w w') (B : Nat) : Below B w w' := ⟨h.1.os, h.1.tape, h.1.output, by rw [h.2]; exact Nat.le_refl _, fun k _ => by rw [h.2]⟩


theorem owns_made (w : World) : (w.alloc (.cells #[] 3)).ownsRow w.heap.size 3 1 (.slice (some ⟨w.heap.size, 0, none⟩) 0 0) 0 (ints []) := by
  have := World.ownsRow_made (base := w.heap.size) (e := 3) (size := 1) w #[] 0 (Nat.le_refl _) (by decide) rfl
  exact this

/-- The numbers from a on, m of them, for which P holds. -/
def sel (P : Nat → Bool) (a : Nat) : Nat → List Int
  | 0 => []
  | m + 1 => if P (a + m) then sel P a m ++ [((a + m : Nat) : Int)] else sel P a m
theorem sel_yes {P : Nat → Bool} {a m : Nat} (h : P (a + m) = true) : sel P a (m + 1) = sel P a m ++ [((a + m : Nat) : Int)] := by rw [sel, if_pos h]
theorem sel_no {P : Nat → Bool} {a m : Nat} (h : P (a + m) = false) : sel P a (m + 1) = sel P a m := by rw [sel, if_neg (by rw [h]; decide)]
theorem sel_le (P : Nat → Bool) (a m : Nat) : (sel P a m).length ≤ m := by
  induction m with
  | zero => exact Nat.le_refl _
  | succ m ih =>
    unfold sel; split
    · rw [List.length_append, List.length_singleton]; omega
    · omega
def allTo (f : Nat → Bool) : Nat → Bool
  | 0 => true
  | n + 1 => allTo f n && f n
theorem allTo_iff (f : Nat → Bool) (n : Nat) : allTo f n = true ↔ ∀ i, i < n → f i = true := by
  induction n with
  | zero => simp [allTo]
  | succ n ih =>
    rw [allTo, Bool.and_eq_true, ih]
    constructor
    · intro h i hi
      by_cases e : i < n
      · exact h.1 i e
      · obtain rfl : i = n := by omega
        exact h.2
    · intro h; exact ⟨fun i hi => h i (by omega), h n (by omega)⟩
/-- What an owned row of ints hands back. -/
theorem RetInts.of_owns {w w' : World} {lo n : Nat} {v : Value} {xs : List Int} (h : w'.ownsRow lo 3 1 v n (ints xs)) (hlo : w.heap.size ≤ lo) (hn : n ≤ 1048576) (hb : Below w.heap.size w w') :
    RetInts xs w (.returned v) w' := by
  obtain ⟨pa, cap, rfl, h1, h2, h3, h4⟩ := Row.of_owns h
  exact ⟨pa, n, cap, rfl, Lib.hid (by rw [ints_length] at h3; exact h3), hn, h4.mono hlo (Nat.le_refl _), hb⟩

theorem RetInts.clip {w w' : World} {lo n ca : Nat} {pa : Option Addr} {xs : List Int} (h : w'.ownsRow lo 3 1 (.slice pa n ca) n (ints xs)) (hlo : w.heap.size ≤ lo) (hn : n ≤ 1048576) (hb : Below w.heap.size w w') :
    RetInts xs w (.returned (.slice pa n n)) w' := by
  obtain ⟨pa', cap, e, h1, h2, h3, h4⟩ := Row.of_owns h
  cases e
  exact ⟨pa, n, n, rfl, Lib.hid (by rw [ints_length] at h3; exact h3), hn, h4.mono hlo (Nat.le_refl _), hb⟩

end Go.Proofs.YtknocepgfjebpaaDoor
