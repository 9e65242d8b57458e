/- One row of ints that a call has made by 'make'; regions that read and then write in one forced order. -/
import Derived.Test.YtknocepgfjebpaaDoorA
import Derived.StillTailTactics
namespace Go.Proofs.YtknocepgfjebpaaDoor
open Go.RowKit
set_option linter.unusedVariables false

/-- A region that reads and then, in one forced order, writes: walked once, over a world with a name. -/
theorem still_tail_abs {P : Program} {id : Nat} {Q : Exit → Act → World → Prop} {a : Act} {w : World} {l : List Oper} (n : Nat) (hm : P.follows .mixedOrders = true) (hB : Region.lexTailB .any l.toArray n = true)
    (h : ∀ w1, Still w w1 → wpStill P l.toArray w1 (fun a' => wpList P l.toArray Q (l.drop n) a' w1) (l.take n) a) : (Code.region id l.toArray true).wp P Q a w :=
  wp_region_still_tail n hm hB (h w.drew ⟨(Below.refl _ _).drew, rfl⟩)

/-- Block g is a row of ints, its first m zero. -/
def Zrow (W : World) (g m : Nat) : Prop := ∃ cur, W.heap[g]? = some (.cells cur 3 (0, 0)) ∧ ∀ j, j < m → cur[j]? = some (.int .i64 0)
def rowsV (gs : List Nat) (m : Nat) : List Value := gs.map fun g => .slice (some ⟨g, 0, none⟩) m m
theorem Zrow.lt {W : World} {g m : Nat} (h : Zrow W g m) : g < W.heap.size := by
  obtain ⟨cur, h1, _⟩ := h; exact (Array.getElem?_eq_some_iff.1 h1).1
theorem Zrow.cell {W : World} {g m : Nat} (h : Zrow W g m) {j : Nat} (hj : j < m) : W.cell? ⟨g, j, none⟩ = some (.int .i64 0) ∧ W.frozen? ⟨g, j, none⟩ = false := by
  obtain ⟨cur, h1, h2⟩ := h
  have h3 := h2 j hj
  exact ⟨by simp [World.cell?, h1, h3], by simp [World.frozen?, h1]⟩
theorem Zrow.kept {W W' : World} {g m : Nat} (h : Zrow W g m) {row : Option Nat} (hg : W.grownBy W' row) (hr : row ≠ some g) : Zrow W' g m := by
  have hl := h.lt
  obtain ⟨cur, h1, h2⟩ := h
  exact ⟨cur, (hg.block g hl (Ne.symm hr)).trans h1, h2⟩
theorem Zrow.made {W : World} {g m : Nat} {base : Nat} (h : W.ownsRow base 3 1 (.slice (some ⟨g, 0, none⟩) m m) m (madeCells #[.int .i64 0] (m * 1)).toList) : Zrow W g m := by
  rcases h.2 with ⟨h0, _⟩ | ⟨g', cap, cur, e, _, hh, _, _, hs, ht⟩
  · cases h0
  · cases e
    refine ⟨cur, hh, fun j hj => ?_⟩
    have e1 : (cur.toList.take (m * 1))[j]? = cur[j]? := by rw [List.getElem?_take_of_lt (by omega)]; simp
    rw [← e1, ht]
    rw [toList_madeCells_one, List.getElem?_replicate, if_pos (by omega)]

theorem below_then {W a b : World} (h : Below W.heap.size W a) (k : Below a.heap.size a b) : Below W.heap.size W b := h.trans (k.mono h.size)
/-- Cells of ints at block g, which read as T and can be written. -/
def FnRow (W : World) (lo g n : Nat) (T : Nat → Int) : Prop := lo ≤ g ∧ ∀ j, j < n → W.cell? ⟨g, j, none⟩ = some (.int .i64 (T j)) ∧ W.frozen? ⟨g, j, none⟩ = false
def upd1 (T : Nat → Int) (i : Nat) (v : Int) : Nat → Int := fun j => if j = i then v else T j
theorem FnRow.of_zrow {W : World} {lo g n : Nat} (h : Zrow W g n) (hlo : lo ≤ g) : FnRow W lo g n (fun _ => 0) := ⟨hlo, fun j hj => h.cell hj⟩
theorem FnRow.congr {W : World} {lo g n : Nat} {T T' : Nat → Int} (h : FnRow W lo g n T) (he : ∀ j, j < n → T j = T' j) : FnRow W lo g n T' :=
  ⟨h.1, fun j hj => by rw [← he j hj]; exact h.2 j hj⟩
theorem FnRow.kept {W W' : World} {lo g n : Nat} {T : Nat → Int} (h : FnRow W lo g n T) (hb : Below W.heap.size W W') : FnRow W' lo g n T :=
  ⟨h.1, fun j hj => ⟨(hb.cell (p := ⟨g, j, none⟩) (cell_lt (h.2 j hj).1)).trans (h.2 j hj).1, (hb.frozen (p := ⟨g, j, none⟩) (cell_lt (h.2 j hj).1)).trans (h.2 j hj).2⟩⟩
theorem FnRow.store {W : World} {lo g n : Nat} {T : Nat → Int} (h : FnRow W lo g n T) {i : Nat} (hi : i < n) (v : Int) : FnRow (W.setCell ⟨g, i, none⟩ (.int .i64 v)) lo g n (upd1 T i v) := by
  refine ⟨h.1, fun j hj => ⟨?_, by rw [World.frozen?_setCell]; exact (h.2 j hj).2⟩⟩
  by_cases e : j = i
  · subst e
    rw [World.cell?_setCell_same _ _ _ (h.2 j hj).1]; simp [upd1]
  · rw [World.cell?_setCell_other _ _ _ _ (by simp only [ne_eq, Addr.mk.injEq, not_and]; intro _ e2; exact absurd e2.symm e)]
    rw [upd1, if_neg e]; exact (h.2 j hj).1
/-- A row told by a function is a row told by a list. -/
theorem FnRow.row {W : World} {lo g n : Nat} {T : Nat → Int} {xs : List Int} (h : FnRow W lo g n T) (hn : xs.length = n) (he : ∀ j, j < n → xs[j]?.getD 0 = T j) (hg : g < W.heap.size) : Row W lo W.heap.size (some ⟨g, 0, none⟩) (ints xs) := fun i v hv => by
  have hi : i < xs.length := by have := (List.getElem?_eq_some_iff.1 hv).1; rw [ints_length] at this; exact this
  rw [ints_get hi] at hv; cases hv
  exact ⟨g, rfl, h.1, hg, by rw [he i (by omega)]; exact (h.2 i (by omega)).1, (h.2 i (by omega)).2⟩
end Go.Proofs.YtknocepgfjebpaaDoor
