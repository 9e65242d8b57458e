/- The walks of PlacesOf, the reference's and the program's, of strings.HasPrefix and of places. -/
import Derived.Test.YtpabgagfkicobaaP
namespace Go.Proofs.Ytpabgagfkicobaa
open Go.RowKit
set_option linter.unusedVariables false

/-- w stands in s at i. -/
def atB (s w : List UInt8) (i : Nat) : Bool := decide ((s.drop i).take w.length = w)
def placesL (s w : List UInt8) : List Int := sel (atB s w) 0 s.length
def placesOf (s w : List UInt8) : List Int := if vt s && vt w && !w.isEmpty then placesL s w else []

theorem atB_lt {s w : List UInt8} {i : Nat} (h : atB s w i = true) (h0 : 0 < w.length) : i + w.length ≤ s.length := by
  have e := of_decide_eq_true h
  have := congrArg List.length e
  rw [List.length_take, List.length_drop] at this; omega
theorem sel_tail {P : Nat → Bool} {a m : Nat} (n : Nat) (h : m ≤ n) (hP : ∀ i, m ≤ i → i < n → P (a + i) = false) : sel P a n = sel P a m := by
  induction n with
  | zero => rw [show m = 0 by omega]
  | succ n ih =>
    by_cases e : m = n + 1
    · rw [e]
    · rw [sel_no (hP n (by omega) (by omega))]; exact ih (by omega) (fun i h1 h2 => hP i h1 (by omega))
theorem owns_iterAt {w : World} {lo : Nat} {e : TypeId} {v : Value} {n : Nat} {xs : List Value} (h : w.ownsRow lo e 1 v n xs) {K : Nat} {s : ByteArray} {p : Nat} (hit : w.heap[K]? = some (.stringIter s p)) (p' : Nat) : (w.iterAt K s p').ownsRow lo e 1 v n xs := by
  refine ⟨h.1, ?_⟩
  rcases h.2 with hn | ⟨g, cap, cur, hv, hg, hh, r⟩
  · exact .inl hn
  · have hne : g ≠ K := by rintro rfl; rw [hit] at hh; cases hh
    exact .inr ⟨g, cap, cur, hv, hg, (Lib.iterAt_other w K g s p' hne).trans hh, r⟩
theorem iter_grown {w w' : World} {lo : Nat} {e : TypeId} {v : Value} {n : Nat} {xs : List Value} (h : w.ownsRow lo e 1 v n xs) {K : Nat} {s : ByteArray} {p : Nat} (hit : w.heap[K]? = some (.stringIter s p)) {o : Obj} (hg : (w.alloc o).grownBy w' v.ownBlock) :
    w'.heap[K]? = some (.stringIter s p) := by
  have hlt : K < w.heap.size := (Array.getElem?_eq_some_iff.1 hit).1
  rw [hg.block K (by simp; omega) ?_]
  · rw [Below.heap_alloc w o K hlt]; exact hit
  · rcases h.2 with ⟨rfl, _⟩ | ⟨g, cap, cur, rfl, _, hh, _⟩
    · simp [Value.ownBlock]
    · simp only [Value.ownBlock]
      intro e; cases e; rw [hit] at hh; cases hh

theorem hasPrefix_atB (s w : List UInt8) (i : Nat) : Lib.hasPrefix (s.drop i) w = atB s w i := by
  rw [Bool.eq_iff_iff]; unfold atB Lib.hasPrefix
  rw [List.isPrefixOf_iff_prefix, decide_eq_true_eq, List.prefix_iff_eq_take]
  exact ⟨Eq.symm, Eq.symm⟩

theorem sel0_app {P : Nat → Bool} {k lo : Nat} {w' : World} {v' : Value} (h : P k = true) (ho : w'.ownsRow lo 3 1 v' ((sel P 0 k).length + 1) (ints (sel P 0 k ++ [(k : Int)]))) :
    w'.ownsRow lo 3 1 v' (sel P 0 (k + 1)).length (ints (sel P 0 (k + 1))) := by
  rw [sel_yes (by rw [Nat.zero_add]; exact h), Nat.zero_add]; simpa using ho
theorem sel0_keep {P : Nat → Bool} {k lo : Nat} {w' : World} {v' : Value} (h : P k = false) (ho : w'.ownsRow lo 3 1 v' (sel P 0 k).length (ints (sel P 0 k))) :
    w'.ownsRow lo 3 1 v' (sel P 0 (k + 1)).length (ints (sel P 0 (k + 1))) := by
  rw [sel_no (by rw [Nat.zero_add]; exact h)]; exact ho


theorem placesOf_yes {s w : List UInt8} (h1 : vt s = true) (h2 : vt w = true) (h3 : w.isEmpty = false) : placesOf s w = placesL s w := by rw [placesOf, if_pos (by rw [h1, h2, h3]; rfl)]
theorem placesOf_no {s w : List UInt8} (h : vt s = false ∨ vt w = false ∨ w.isEmpty = true) : placesOf s w = [] := by
  rw [placesOf, if_neg]; rcases h with h | h | h <;> simp [h]
theorem emp_list {u : ByteArray} : u.toList.isEmpty = u.data.toList.isEmpty := by rw [Lib.toList_data]


theorem atB_eq (s t : ByteArray) (k : Nat) : (s.extract k (k + t.size)).data.toList = (s.data.toList.drop k).take t.data.toList.length := by
  rw [Lib.extract_data, list_len, Nat.add_sub_cancel_left]
theorem atB_yes {s t : ByteArray} {k : Nat} (h : ((s.extract k (k + t.size)).toList == t.toList) = true) : atB s.data.toList t.data.toList k = true := by
  have := str_eq h; rw [atB_eq] at this; exact decide_eq_true this
theorem atB_no {s t : ByteArray} {k : Nat} (h : ((s.extract k (k + t.size)).toList == t.toList) = false) : atB s.data.toList t.data.toList k = false := by
  have := str_ne h; rw [atB_eq] at this; exact decide_eq_false this

end Go.Proofs.Ytpabgagfkicobaa
