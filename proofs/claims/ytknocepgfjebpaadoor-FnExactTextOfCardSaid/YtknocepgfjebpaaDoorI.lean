/- Rows of cells that a call has made: what is kept of them, and the walks of eqIntS, markIntS and heldIntS over them. -/
import Derived.Test.YtknocepgfjebpaaDoorV
import Derived.BigQuiet
import Derived.Deep.QuietTactic
namespace Go.Proofs.YtknocepgfjebpaaDoor
open Go.RowKit
set_option linter.unusedVariables false

/-- The cells from address pa on hold vs; they lie in one block, from lo on and below hi, and can be written. -/
def Row (W : World) (lo hi : Nat) (pa : Option Addr) (vs : List Value) : Prop :=
  ∀ i v, vs[i]? = some v → ∃ g, pa = some ⟨g, 0, none⟩ ∧ lo ≤ g ∧ g < hi ∧ W.cell? ⟨g, i, none⟩ = some v ∧ W.frozen? ⟨g, i, none⟩ = false
def ints (xs : List Int) : List Value := xs.map (.int .i64)
def marks (k : Int) : Nat → List Int
  | 0 => []
  | n + 1 => marks k n ++ [k + n]

theorem ints_length (xs : List Int) : (ints xs).length = xs.length := by simp [ints]
theorem ints_get {xs : List Int} {i : Nat} (h : i < xs.length) : (ints xs)[i]? = some (.int .i64 (xs[i]?.getD 0)) := by
  simp [ints, List.getElem?_eq_getElem h]
theorem marks_length (k : Int) (n : Nat) : (marks k n).length = n := by induction n with
  | zero => rfl
  | succ n ih => simp [marks, ih]
theorem marks_get (k : Int) (n i : Nat) (h : i < n) : (marks k n)[i]?.getD 0 = k + i := by
  induction n with
  | zero => omega
  | succ n ih =>
    unfold marks
    by_cases hi : i < n
    · rw [List.getElem?_append_left (by rw [marks_length]; exact hi)]; exact ih hi
    · obtain rfl : i = n := by omega
      rw [List.getElem?_append_right (by rw [marks_length]; omega), marks_length]; simp

theorem Row.nil (W : World) (lo hi : Nat) (pa : Option Addr) : Row W lo hi pa [] := fun i v h => by simp at h
theorem Row.below {W W' : World} {lo hi B : Nat} {pa : Option Addr} {vs : List Value} (h : Row W lo hi pa vs) (hb : Below B W W') (hB : hi ≤ B) : Row W' lo hi pa vs := fun i v hv => by
  obtain ⟨g, e, h1, h2, h3, h4⟩ := h i v hv
  exact ⟨g, e, h1, h2, (hb.cell (p := ⟨g, i, none⟩) (by show g < B; omega)).trans h3, (hb.frozen (p := ⟨g, i, none⟩) (by show g < B; omega)).trans h4⟩
theorem cell_lt {W : World} {g i : Nat} {v : Value} (h : W.cell? ⟨g, i, none⟩ = some v) : g < W.heap.size := by
  by_cases hg : g < W.heap.size
  · exact hg
  · simp [World.cell?, Array.getElem?_eq_none (Nat.le_of_not_lt hg)] at h
theorem Row.kept {W W' : World} {lo hi : Nat} {pa : Option Addr} {vs : List Value} (h : Row W lo hi pa vs) (hb : Below W.heap.size W W') : Row W' lo hi pa vs := fun i v hv => by
  obtain ⟨g, e, h1, h2, h3, h4⟩ := h i v hv
  have hl := cell_lt h3
  exact ⟨g, e, h1, h2, (hb.cell (p := ⟨g, i, none⟩) hl).trans h3, (hb.frozen (p := ⟨g, i, none⟩) hl).trans h4⟩
theorem Row.mono {W : World} {lo hi lo' hi' : Nat} {pa : Option Addr} {vs : List Value} (h : Row W lo hi pa vs) (h1 : lo' ≤ lo) (h2 : hi ≤ hi') : Row W lo' hi' pa vs := fun i v hv => by
  obtain ⟨g, e, a, b, c, d⟩ := h i v hv
  exact ⟨g, e, by omega, by omega, c, d⟩
theorem Row.getInt {W : World} {lo hi : Nat} {pa : Option Addr} {xs : List Int} (h : Row W lo hi pa (ints xs)) {i : Nat} (hi' : i < xs.length) :
    ∃ g, pa = some ⟨g, 0, none⟩ ∧ lo ≤ g ∧ g < hi ∧ W.cell? ⟨g, i, none⟩ = some (.int .i64 (xs[i]?.getD 0)) ∧ W.frozen? ⟨g, i, none⟩ = false := h i _ (ints_get hi')
theorem Row.set {W : World} {lo hi g : Nat} {vs : List Value} (h : Row W lo hi (some ⟨g, 0, none⟩) vs) {j : Nat} (hj : j < vs.length) (v : Value) :
    Row (W.setCell ⟨g, j, none⟩ v) lo hi (some ⟨g, 0, none⟩) (vs.set j v) := fun i u hu => by
  rw [List.getElem?_set] at hu
  by_cases hij : j = i
  · subst hij
    obtain ⟨g', e, h1, h2, h3, h4⟩ := h j vs[j] (List.getElem?_eq_getElem hj)
    cases e
    simp [hj] at hu; subst hu
    exact ⟨g, rfl, h1, h2, World.cell?_setCell_same _ _ _ h3, by rw [World.frozen?_setCell]; exact h4⟩
  · rw [if_neg hij] at hu
    obtain ⟨g', e, h1, h2, h3, h4⟩ := h i u hu
    cases e
    exact ⟨g, rfl, h1, h2, (World.cell?_setCell_other _ _ _ _ (by simp)).trans h3, by rw [World.frozen?_setCell]; exact h4⟩
theorem marks_step {xs : List Int} {k : Nat} (h : k < xs.length) :
    (ints (marks 1 k) ++ (ints xs).drop k).set k (.int .i64 (1 + k)) = ints (marks 1 (k + 1)) ++ (ints xs).drop (k + 1) := by
  have e : (ints xs).drop k = .int .i64 xs[k] :: (ints xs).drop (k + 1) := by
    rw [List.drop_eq_getElem_cons (by rw [ints_length]; exact h)]; simp [ints]
  rw [e, List.set_append_right _ _ (by rw [ints_length, marks_length]; exact Nat.le_refl _), ints_length, marks_length, Nat.sub_self]
  simp [marks, ints]
theorem marks_at {xs : List Int} {k : Nat} (h : k < xs.length) :
    (ints (marks 1 k) ++ (ints xs).drop k)[k]? = some (.int .i64 (xs[k]?.getD 0)) := by
  rw [List.getElem?_append_right (by rw [ints_length, marks_length]; exact Nat.le_refl _), ints_length, marks_length, Nat.sub_self]
  simp [ints, List.getElem?_eq_getElem h]
/-- An owned row is such a row. -/
theorem Row.of_owns {W : World} {lo : Nat} {e : TypeId} {v : Value} {n : Nat} {vs : List Value} (h : W.ownsRow lo e 1 v n vs) :
    ∃ pa cap, v = .slice pa n cap ∧ n ≤ cap ∧ cap ≤ maxLen ∧ vs.length = n ∧ Row W lo W.heap.size pa vs := by
  have hown := h
  obtain ⟨hl, hcase⟩ := h
  rcases hcase with ⟨rfl, rfl⟩ | ⟨g, cap, cur, rfl, hg, hh, hn, hcap, hsz, htake⟩
  · exact ⟨none, 0, rfl, Nat.le_refl _, Nat.zero_le _, by omega, fun i v hv => by have := (List.getElem?_eq_some_iff.1 hv).1; omega⟩
  · refine ⟨some ⟨g, 0, none⟩, cap, rfl, hn, hcap, by omega, fun i v hv => ⟨g, rfl, hg, (Array.getElem?_eq_some_iff.1 hh).1, ?_, ?_⟩⟩
    · have := hown.cells (g := g) rfl i v hv
      rw [show (⟨g, i, none⟩ : Addr) = (⟨g, 0, none⟩ : Addr).add i from by cases i <;> simp [Addr.add]]
      exact this
    · simp [World.frozen?, hh]

/-- The call hands back a new slice that reads as xs. -/
def RetInts (xs : List Int) (w : World) (e : Ending) (w' : World) : Prop :=
  ∃ pa n ca, e = .returned (.slice pa n ca) ∧ Hid (xs.length = n) ∧ n ≤ 1048576 ∧ Row w' w.heap.size w'.heap.size pa (ints xs) ∧ Below w.heap.size w w'
end Go.Proofs.YtknocepgfjebpaaDoor
