/- Rows of cells told by a function; structs in such rows; the marks as text. -/
import Derived.Test.YtknocepgfjebpaaDoorZ
import Derived.Laws.IdiomStrings
namespace Go.Proofs.YtknocepgfjebpaaDoor
open Go.RowKit
set_option linter.unusedVariables false

/-- The first N cells from address pa on read as f; they lie in one block, from lo on and below hi, and can be written. -/
def RowF (W : World) (lo hi : Nat) (pa : Option Addr) (N : Nat) (f : Nat → Value) : Prop :=
  ∀ i, i < N → ∃ g, pa = some ⟨g, 0, none⟩ ∧ lo ≤ g ∧ g < hi ∧ W.cell? ⟨g, i, none⟩ = some (f i) ∧ W.frozen? ⟨g, i, none⟩ = false
theorem RowF.nil (W : World) (lo hi : Nat) (pa : Option Addr) (f : Nat → Value) : RowF W lo hi pa 0 f := fun i h => by omega
theorem RowF.congr {W : World} {lo hi N : Nat} {pa : Option Addr} {f f' : Nat → Value} (h : RowF W lo hi pa N f) (he : ∀ i, i < N → f i = f' i) : RowF W lo hi pa N f' := fun i hi' => by rw [← he i hi']; exact h i hi'
theorem RowF.kept {W W' : World} {lo hi N : Nat} {pa : Option Addr} {f : Nat → Value} (h : RowF W lo hi pa N f) (hb : Below W.heap.size W W') : RowF W' lo hi pa N f := fun i hi' => by
  obtain ⟨g, e, h1, h2, h3, h4⟩ := h i hi'
  have hl := cell_lt h3
  exact ⟨g, e, h1, h2, (hb.cell (p := ⟨g, i, none⟩) hl).trans h3, (hb.frozen (p := ⟨g, i, none⟩) hl).trans h4⟩
theorem RowF.mono {W : World} {lo hi lo' hi' N : Nat} {pa : Option Addr} {f : Nat → Value} (h : RowF W lo hi pa N f) (h1 : lo' ≤ lo) (h2 : hi ≤ hi') : RowF W lo' hi' pa N f := fun i hi0 => by
  obtain ⟨g, e, a, b, c, d⟩ := h i hi0
  exact ⟨g, e, by omega, by omega, c, d⟩
theorem RowF.less {W : World} {lo hi N M : Nat} {pa : Option Addr} {f : Nat → Value} (h : RowF W lo hi pa N f) (hM : M ≤ N) : RowF W lo hi pa M f := fun i hi0 => h i (by omega)
def updF (f : Nat → Value) (j : Nat) (v : Value) : Nat → Value := fun i => if i = j then v else f i
theorem RowF.set {W : World} {lo hi N g : Nat} {f : Nat → Value} (h : RowF W lo hi (some ⟨g, 0, none⟩) N f) {j : Nat} (hj : j < N) (v : Value) : RowF (W.setCell ⟨g, j, none⟩ v) lo hi (some ⟨g, 0, none⟩) N (updF f j v) := fun i hi' => by
  obtain ⟨g', e, h1, h2, h3, h4⟩ := h i hi'
  cases e
  by_cases hij : i = j
  · subst hij
    exact ⟨g, rfl, h1, h2, by rw [World.cell?_setCell_same _ _ _ h3]; simp [updF], by rw [World.frozen?_setCell]; exact h4⟩
  · refine ⟨g, rfl, h1, h2, ?_, by rw [World.frozen?_setCell]; exact h4⟩
    rw [World.cell?_setCell_other _ _ _ _ (by simp only [ne_eq, Addr.mk.injEq, not_and]; intro _ e2; exact absurd e2.symm hij), updF, if_neg hij]
    exact h3
/-- Of the blocks that were there only those from lo on and below hi may have turned. -/
def OnlyF (lo hi : Nat) (w w' : World) : Prop := w'.os = w.os ∧ w'.tape = w.tape ∧ w'.output = w.output ∧ w.heap.size ≤ w'.heap.size ∧ ∀ k, k < w.heap.size → (k < lo ∨ hi ≤ k) → w'.heap[k]? = w.heap[k]?
theorem OnlyF.refl (lo hi : Nat) (w : World) : OnlyF lo hi w w := ⟨rfl, rfl, rfl, Nat.le_refl _, fun _ _ _ => rfl⟩
theorem OnlyF.setCell {lo hi g i : Nat} {w w' : World} (h : OnlyF lo hi w w') (h1 : lo ≤ g) (h2 : g < hi) (v : Value) : OnlyF lo hi w (w'.setCell ⟨g, i, none⟩ v) :=
  ⟨h.1, h.2.1, h.2.2.1, by rw [World.size_setCell]; exact h.2.2.2.1, fun k hk ho => (Below.heap_setCell w' ⟨g, i, none⟩ v k (by show k ≠ g; omega)).trans (h.2.2.2.2 k hk ho)⟩
theorem OnlyF.then {lo hi : Nat} {w w' w2 : World} (h : OnlyF lo hi w w') (hb : Below w'.heap.size w' w2) : OnlyF lo hi w w2 :=
  ⟨hb.os.trans h.1, hb.tape.trans h.2.1, hb.output.trans h.2.2.1, Nat.le_trans h.2.2.2.1 hb.size, fun k hk ho => (hb.block k (Nat.lt_of_lt_of_le hk h.2.2.2.1)).trans (h.2.2.2.2 k hk ho)⟩
theorem OnlyF.row {lo hi lo2 hi2 N : Nat} {w w' : World} (h : OnlyF lo hi w w') {pa : Option Addr} {f : Nat → Value} (hr : RowF w lo2 hi2 pa N f) (ha : hi2 ≤ lo ∨ hi ≤ lo2) : RowF w' lo2 hi2 pa N f := fun i hi0 => by
  obtain ⟨g, e, h1, h2, h3, h4⟩ := hr i hi0
  have hb := h.2.2.2.2 g (cell_lt h3) (by omega)
  exact ⟨g, e, h1, h2, (World.cell?_of_block (a := ⟨g, i, none⟩) hb).trans h3, (World.frozen?_of_block (a := ⟨g, i, none⟩) hb).trans h4⟩
theorem OnlyF.below {lo hi : Nat} {w w' : World} (h : OnlyF lo hi w w') (B : Nat) (hB : B ≤ lo) (hs : B ≤ w.heap.size) : Below B w w' := ⟨h.1, h.2.1, h.2.2.1, h.2.2.2.1, fun k hk => h.2.2.2.2 k (by omega) (.inl (by omega))⟩

/-- The cells of structs, each of m fields. -/
def stF {α : Type} (m : Nat) (fld : Nat → α → Value) (d : α) (ps : List α) (i : Nat) : Value := fld (i % m) (ps[i / m]?.getD d)
theorem div_at {m j : Nat} (hj : j < m) (k : Nat) : (k * m + j) / m = k ∧ (k * m + j) % m = j := by
  rw [Nat.mul_comm]
  exact ⟨by rw [Nat.mul_add_div (by omega), Nat.div_eq_of_lt hj, Nat.add_zero], by rw [Nat.mul_add_mod, Nat.mod_eq_of_lt hj]⟩
theorem stF_at {α : Type} {m j : Nat} (hj : j < m) (fld : Nat → α → Value) (d : α) (ps : List α) (k : Nat) : stF m fld d ps (k * m + j) = fld j (ps[k]?.getD d) := by
  unfold stF; rw [(div_at hj k).1, (div_at hj k).2]
/-- What a slice that a call has made and filled with structs owns, is such a row. -/
theorem RowF.of_owns {α : Type} {W : World} {lo m : Nat} {e : TypeId} {v : Value} {n : Nat} (fld : Nat → α → Value) (d : α) (ps : List α) {vs : List Value} (h : W.ownsRow lo e m v n vs)
    (hv : ∀ i, i < n * m → vs[i]? = some (stF m fld d ps i)) : ∃ pa cap, v = .slice pa n cap ∧ n ≤ cap ∧ cap ≤ maxLen ∧ RowF W lo W.heap.size pa (n * m) (stF m fld d ps) := by
  have hown := h
  obtain ⟨hl, hcase⟩ := h
  rcases hcase with ⟨rfl, rfl⟩ | ⟨g, cap, cur, rfl, hg, hh, hn, hcap, hsz, htake⟩
  · exact ⟨none, 0, rfl, Nat.le_refl _, Nat.zero_le _, fun i hi => by rw [Nat.zero_mul] at hi; omega⟩
  · refine ⟨some ⟨g, 0, none⟩, cap, rfl, hn, hcap, fun i hi => ⟨g, rfl, hg, (Array.getElem?_eq_some_iff.1 hh).1, ?_, by simp [World.frozen?, hh]⟩⟩
    have := hown.cells (g := g) rfl i _ (hv i hi)
    rw [show (⟨g, i, none⟩ : Addr) = (⟨g, 0, none⟩ : Addr).add i from by cases i <;> simp [Addr.add]]
    exact this
/-- The cells of a list of structs, one behind the other. -/
theorem cells_get {α : Type} {m : Nat} (cells : α → List Value) (fld : Nat → α → Value) (d : α) (hm : 0 < m) (hl : ∀ p, (cells p).length = m) (hf : ∀ p j, j < m → (cells p)[j]? = some (fld j p)) :
    ∀ (ps : List α) (i : Nat), i < ps.length * m → (ps.flatMap cells)[i]? = some (stF m fld d ps i) := by
  intro ps
  induction ps with
  | nil => intro i hi; simp at hi
  | cons p ps ih =>
    intro i hi
    rw [List.flatMap_cons]
    by_cases h : i < m
    · rw [List.getElem?_append_left (by rw [hl]; exact h), hf p i h]
      unfold stF; rw [Nat.div_eq_of_lt h, Nat.mod_eq_of_lt h]; rfl
    · rw [List.getElem?_append_right (by rw [hl]; omega), hl]
      have hi2 : i - m < ps.length * m := by rw [List.length_cons, Nat.succ_mul] at hi; omega
      rw [ih (i - m) hi2]
      unfold stF
      obtain ⟨j, rfl⟩ : ∃ j, i = j + m := ⟨i - m, by omega⟩
      rw [Nat.add_sub_cancel, Nat.add_mod_right, Nat.add_div_right _ hm, List.getElem?_cons_succ]
theorem cells_len {α : Type} {m : Nat} (cells : α → List Value) (hl : ∀ p, (cells p).length = m) (ps : List α) : (ps.flatMap cells).length = ps.length * m := by
  induction ps with
  | nil => simp
  | cons p ps ih => rw [List.flatMap_cons, List.length_append, hl, ih, List.length_cons, Nat.succ_mul, Nat.add_comm]

/-! The marks as text. -/
def decL (k : Nat) : List UInt8 := if h : k = 0 then [] else decL (k / 10) ++ [UInt8.ofNat (48 + k % 10)]
termination_by k
decreasing_by omega
theorem decL_zero : decL 0 = [] := by unfold decL; rw [dif_pos rfl]
theorem decL_pos {k : Nat} (h : 0 < k) : decL k = decL (k / 10) ++ [UInt8.ofNat (48 + k % 10)] := by
  conv => lhs; unfold decL
  rw [dif_neg (by omega)]
def markT (k : Nat) : ByteArray := ⟨(109 :: decL k).toArray⟩
end Go.Proofs.YtknocepgfjebpaaDoor
