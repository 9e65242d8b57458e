/- Tables of how many letters words overlap by: rows of rows of ints, the reference's walk. -/
import Derived.Test.YtpabgagfkicobaaRw
import Derived.Test.YtpabgagfkicobaaTab
import Derived.Deep.AppendLies
import Derived.Deep.DrawnRows
namespace Go.Proofs.Ytpabgagfkicobaa
open Go.RowKit
set_option linter.unusedVariables false

theorem below_grownT {w w' : World} (hb : Below w.heap.size w w') : w.grownBy w' none := ⟨hb.os, hb.tape, hb.output, hb.size, fun k hk _ => hb.block k hk⟩
theorem ownT_below {w w' : World} {lo : Nat} {e : TypeId} {m n : Nat} {v : Value} {xs : List Value} (h : w.ownsRow lo e m v n xs) (hb : Below w.heap.size w w') : w'.ownsRow lo e m v n xs := by
  refine h.kept (below_grownT hb) ?_
  cases hv : v.ownBlock with
  | none => exact .inl rfl
  | some g => exact .inr (by simp)
/-- Rows of different element types never share a block. -/
theorem own_neT {W : World} {b1 b2 e1 e2 m1 m2 n1 n2 : Nat} {v1 v2 : Value} {x1 x2 : List Value} (h1 : W.ownsRow b1 e1 m1 v1 n1 x1) (h2 : W.ownsRow b2 e2 m2 v2 n2 x2) (hne : e1 ≠ e2) : v1.ownBlock = none ∨ v1.ownBlock ≠ v2.ownBlock := by
  rcases h1.2 with ⟨rfl, _⟩ | ⟨g, cap, cur, rfl, _, hh, _⟩
  · exact .inl rfl
  · right
    rcases h2.2 with ⟨rfl, _⟩ | ⟨g', cap', cur', rfl, _, hh', _⟩
    · simp [Value.ownBlock]
    · simp only [Value.ownBlock]
      intro e; cases e
      rw [hh] at hh'; cases hh'; exact hne rfl

/-! The plain law. -/
def ovT (xs : List ByteArray) (i j : Nat) : Int := (ov (wAt xs i).data.toList (wAt xs j).data.toList : Nat)
def ovRow (xs : List ByteArray) (i m : Nat) : List Int := (List.range m).map (ovT xs i)
theorem ovRow_len (xs : List ByteArray) (i m : Nat) : (ovRow xs i m).length = m := by simp [ovRow]
theorem ovRow_succ (xs : List ByteArray) (i m : Nat) : ovRow xs i (m + 1) = ovRow xs i m ++ [ovT xs i m] := by simp [ovRow, List.range_succ]
theorem ovRow_at (xs : List ByteArray) {i m j : Nat} (h : j < m) : (ovRow xs i m)[j]?.getD 0 = ovT xs i j := by
  unfold ovRow; rw [List.getElem?_map, List.getElem?_range h]; rfl

/-- Rows of n ints, each in a block of its own. -/
def rowV (n : Nat) (p : Nat × Nat) : Value := .slice (some ⟨p.1, 0, none⟩) n p.2
def OT (W : World) (lo n : Nat) (xs : List ByteArray) (m : Nat) (v : Value) (ps : List (Nat × Nat)) : Prop :=
  ps.length = m ∧ W.ownsRow lo 35 1 v m (ps.map (rowV n)) ∧ (ps.map (·.1)).Nodup ∧ ∀ i p, ps[i]? = some p → W.ownsRow lo 3 1 (rowV n p) n (ints (ovRow xs i n))
theorem OT.kept {W W' : World} {lo n : Nat} {xs : List ByteArray} {m : Nat} {v : Value} {ps : List (Nat × Nat)} (h : OT W lo n xs m v ps) (hb : Below W.heap.size W W') : OT W' lo n xs m v ps :=
  ⟨h.1, ownT_below h.2.1 hb, h.2.2.1, fun i p hp => ownT_below (h.2.2.2 i p hp) hb⟩
theorem OT.lt {W : World} {lo n : Nat} {xs : List ByteArray} {m : Nat} {v : Value} {ps : List (Nat × Nat)} (h : OT W lo n xs m v ps) : ∀ g, g ∈ ps.map (·.1) → g < W.heap.size := fun g hg => by
  obtain ⟨p, hp, rfl⟩ := List.mem_map.1 hg
  obtain ⟨i, hi, e⟩ := List.getElem_of_mem hp
  exact ((h.2.2.2 i p (by rw [List.getElem?_eq_getElem hi, e])).lt p.1 rfl).2
theorem OT.app {W W' : World} {lo n B : Nat} {xs : List ByteArray} {m : Nat} {v v' : Value} {ps : List (Nat × Nat)} {p : Nat × Nat} (h : OT W lo n xs m v ps) (hB : ∀ g, g ∈ ps.map (·.1) → g < B) (hlo : lo ≤ B)
    (hp : W.ownsRow B 3 1 (rowV n p) n (ints (ovRow xs m n))) (ho : W'.ownsRow lo 35 1 v' (m + 1) (ps.map (rowV n) ++ [rowV n p])) (hg : (W.alloc (.cells #[rowV n p] 35)).grownBy W' v.ownBlock) : OT W' lo n xs (m + 1) v' (ps ++ [p]) := by
  have hk : ∀ {q : Nat × Nat} {b : Nat} {ys : List Value}, W.ownsRow b 3 1 (rowV n q) n ys → W'.ownsRow b 3 1 (rowV n q) n ys := fun hq =>
    (hq.alloc _).kept hg (own_neT hq h.2.1 (by decide))
  refine ⟨by rw [List.length_append, h.1]; rfl, by rw [List.map_append]; exact ho, ?_, fun i q hq => ?_⟩
  · rw [List.map_append, List.nodup_append]
    refine ⟨h.2.2.1, by simp, fun a ha b hb => ?_⟩
    have h1 := hB a ha
    have h2 := (hp.lt p.1 rfl).1
    simp at hb; omega
  · by_cases hi : i < ps.length
    · rw [List.getElem?_append_left hi] at hq
      exact hk (h.2.2.2 i q hq)
    · rw [List.getElem?_append_right (by omega)] at hq
      have hi2 : i - ps.length = 0 := by
        have := (List.getElem?_eq_some_iff.1 hq).1; simp at this; omega
      rw [hi2] at hq; cases hq
      obtain rfl : i = m := by have := h.1; omega
      have := hk hp
      exact ⟨this.1, this.2.imp id (fun ⟨g, cap, cur, e, h1, h2⟩ => ⟨g, cap, cur, e, by omega, h2⟩)⟩

/-- What a call hands back that makes a table. -/
def intF (T : Nat → Int) (j : Nat) : Value := .int .i64 (T j)
def TabR (W : World) (lo hi : Nat) (pa : Option Addr) (ps : List (Nat × Nat)) (n m : Nat) (T : Nat → Nat → Int) : Prop :=
  ps.length = n ∧ (ps.map (·.1)).Nodup ∧ ∀ i p, ps[i]? = some p → (∃ gT, pa = some ⟨gT, 0, none⟩ ∧ gT ≠ p.1 ∧ lo ≤ gT ∧ gT < hi ∧ W.cell? ⟨gT, i, none⟩ = some (rowV m p)) ∧ lo ≤ p.1 ∧ p.1 < hi ∧ RowF W p.1 (p.1 + 1) (some ⟨p.1, 0, none⟩) m (intF (T i))
def RetTb (n : Nat) (T : Nat → Nat → Int) (w : World) (e : Ending) (w' : World) : Prop :=
  ∃ pa ca ps, e = .returned (.slice pa n ca) ∧ TabR w' w.heap.size w'.heap.size pa ps n n T ∧ Below w.heap.size w w'
theorem OT.ret {w W : World} {lo n : Nat} {xs : List ByteArray} {v : Value} {ps : List (Nat × Nat)} (h : OT W lo n xs n v ps) (hlo : w.heap.size ≤ lo) (hb : Below w.heap.size w W) : RetTb n (ovT xs) w (.returned v) W := by
  obtain ⟨pa, cap, rfl, h1, h2, h3, h4⟩ := Row.of_owns h.2.1
  refine ⟨pa, cap, ps, rfl, ⟨h.1, h.2.2.1, fun i p hp => ?_⟩, hb⟩
  have hrow := h.2.2.2 i p hp
  have hlt := hrow.lt p.1 rfl
  obtain ⟨gT, e, a1, a2, a3, _⟩ := h4 i (rowV n p) (by rw [List.getElem?_map, hp]; rfl)
  refine ⟨⟨gT, e, ?_, by omega, a2, a3⟩, by omega, hlt.2, fun j hj => ?_⟩
  · rcases own_neT hrow h.2.1 (by decide) with e2 | e2
    · cases e2
    · intro e3; apply e2; rw [e, e3]; rfl
  · obtain ⟨pa', cap', e5, _, _, _, h5⟩ := Row.of_owns hrow
    cases e5
    obtain ⟨g, e6, b1, b2, b3, b4⟩ := h5 j (.int .i64 (ovT xs i j)) (by rw [ints_get (by rw [ovRow_len]; exact hj), ovRow_at xs hj])
    cases e6
    exact ⟨p.1, rfl, Nat.le_refl _, Nat.lt_succ_self _, b3, b4⟩
theorem TabR.kept {W W' : World} {lo hi : Nat} {pa : Option Addr} {ps : List (Nat × Nat)} {n m : Nat} {T : Nat → Nat → Int} (h : TabR W lo hi pa ps n m T) (hb : Below W.heap.size W W') : TabR W' lo hi pa ps n m T :=
  ⟨h.1, h.2.1, fun i p hp => by
    obtain ⟨⟨gT, e, a1, a2, a3, a4⟩, b1, b2, b3⟩ := h.2.2 i p hp
    exact ⟨⟨gT, e, a1, a2, a3, (hb.cell (p := ⟨gT, i, none⟩) (cell_lt a4)).trans a4⟩, b1, b2, b3.kept hb⟩⟩
theorem TabR.mono {W : World} {lo hi lo' hi' : Nat} {pa : Option Addr} {ps : List (Nat × Nat)} {n m : Nat} {T : Nat → Nat → Int} (h : TabR W lo hi pa ps n m T) (h1 : lo' ≤ lo) (h2 : hi ≤ hi') : TabR W lo' hi' pa ps n m T :=
  ⟨h.1, h.2.1, fun i p hp => by
    obtain ⟨⟨gT, e, a1, a2, a3, a4⟩, b1, b2, b3⟩ := h.2.2 i p hp
    exact ⟨⟨gT, e, a1, by omega, by omega, a4⟩, by omega, by omega, b3⟩⟩
theorem RetTb.nil (T : Nat → Nat → Int) (w w' : World) (hb : Below w.heap.size w w') : RetTb 0 T w (.returned (.slice none 0 0)) w' :=
  ⟨none, 0, [], rfl, ⟨rfl, List.nodup_nil, fun i p hp => by simp at hp⟩, hb⟩
theorem tab_made (w : World) : (w.alloc (.cells #[] 35)).ownsRow w.heap.size 35 1 (.slice (some ⟨w.heap.size, 0, none⟩) 0 0) 0 [] :=
  World.ownsRow_made (base := w.heap.size) (e := 35) (size := 1) w #[] 0 (Nat.le_refl _) (by decide) rfl
def tbN (xs : List ByteArray) : Nat := if wsOk xs then xs.length else 0
end Go.Proofs.Ytpabgagfkicobaa
