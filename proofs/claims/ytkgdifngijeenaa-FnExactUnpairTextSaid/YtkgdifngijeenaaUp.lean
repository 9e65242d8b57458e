/- UnpairText: what it computes, the reference's walk and the program's. -/
import Derived.Test.YtkgdifngijeenaaPm
import Derived.Test.YtkgdifngijeenaaVp
namespace Go.Proofs.Ytkgdifngijeenaa
open Go.RowKit
set_option linter.unusedVariables false

def upL (ps : List PrP) : List (Int × List UInt8) := ps.map fun p => (p.1, p.2.data.toList)
def upA (ps : List PrP) : Option (List UInt8) := unpair (upL ps)
theorem upL_len (ps : List PrP) : (upL ps).length = ps.length := by unfold upL; rw [List.length_map]
theorem upL_at {ps : List PrP} {k : Nat} (h : k < ps.length) : (upL ps)[k]? = some ((ps[k]?.getD prNo).1, (ps[k]?.getD prNo).2.data.toList) := by
  unfold upL; rw [List.getElem?_map, List.getElem?_eq_getElem h]; rfl
theorem up_inv {n : Nat} {ps : List (Int × List UInt8)} {i : Nat} : ∀ {rows : List (List UInt8)} {text : List UInt8}, upTo n ps i = some (rows, text) → rows.length = i + 1 ∧ rows.flatten = text ∧ text.length ≤ 40 := by
  induction i with
  | zero => intro rows text h; cases h; exact ⟨rfl, rfl, Nat.zero_le _⟩
  | succ i ih =>
    intro rows text h
    unfold upTo at h
    cases h1 : upTo n ps i with
    | none => rw [h1] at h; cases h
    | some st =>
      obtain ⟨r, t⟩ := st
      cases h2 : ps[i]? with
      | none => rw [h1, h2] at h; cases h
      | some p =>
        rw [h1, h2] at h
        simp only at h
        split at h
        · split at h
          · rename_i hle
            cases h
            obtain ⟨a, b, _⟩ := ih h1
            refine ⟨by rw [List.length_append, List.length_singleton, a], ?_, hle⟩
            rw [List.flatten_append, List.flatten_singleton, b]
          · cases h
        · cases h
theorem up_none {n : Nat} {ps : List (Int × List UInt8)} {i : Nat} (h : upTo n ps i = none) (j : Nat) (hj : i ≤ j) : upTo n ps j = none := by
  induction j with
  | zero => obtain rfl : i = 0 := by omega
            exact h
  | succ j ih =>
    by_cases e : i = j + 1
    · subst e; exact h
    · have := ih (by omega)
      unfold upTo; rw [this]
theorem up_end {ps : List PrP} {k : Nat} (hk : k ≤ ps.length) (h : upTo ps.length (upL ps) k = none) : upA ps = none := by
  unfold upA unpair
  rw [upL_len]
  split
  · rw [up_none h _ hk]; rfl
  · rfl
theorem up_long {ps : List PrP} (h : ¬ ps.length ≤ 40) : upA ps = none := by unfold upA unpair; rw [upL_len, if_neg h]
theorem up_done {ps : List PrP} {rows : List (List UInt8)} {text : List UInt8} (hl : ps.length ≤ 40) (h : upTo ps.length (upL ps) ps.length = some (rows, text)) : upA ps = some text := by
  unfold upA unpair; rw [upL_len, if_pos hl, h]; rfl
theorem up_bad {ps : List PrP} {k : Nat} {rows : List (List UInt8)} {text : List UInt8} (hk : k < ps.length) (h : upTo ps.length (upL ps) k = some (rows, text)) (hb : upOk ps.length k (ps[k]?.getD prNo).1 (ps[k]?.getD prNo).2.data.toList = false) : upA ps = none := by
  refine up_end (k := k + 1) (by omega) ?_
  unfold upTo; rw [h, upL_at hk]; simp only; rw [if_neg (by rw [hb]; decide)]
theorem up_big {ps : List PrP} {k : Nat} {rows : List (List UInt8)} {text : List UInt8} (hk : k < ps.length) (h : upTo ps.length (upL ps) k = some (rows, text))
    (hb : ¬ (text ++ (rowAt rows (ps[k]?.getD prNo).1.toNat ++ (ps[k]?.getD prNo).2.data.toList)).length ≤ 40) : upA ps = none := by
  refine up_end (k := k + 1) (by omega) ?_
  unfold upTo; rw [h, upL_at hk]; simp only; rw [if_neg hb]; split <;> rfl
theorem up_go {ps : List PrP} {k : Nat} {rows : List (List UInt8)} {text : List UInt8} (hk : k < ps.length) (h : upTo ps.length (upL ps) k = some (rows, text)) (hb : upOk ps.length k (ps[k]?.getD prNo).1 (ps[k]?.getD prNo).2.data.toList = true)
    (hle : (text ++ (rowAt rows (ps[k]?.getD prNo).1.toNat ++ (ps[k]?.getD prNo).2.data.toList)).length ≤ 40) :
    upTo ps.length (upL ps) (k + 1) = some (rows ++ [rowAt rows (ps[k]?.getD prNo).1.toNat ++ (ps[k]?.getD prNo).2.data.toList], text ++ (rowAt rows (ps[k]?.getD prNo).1.toNat ++ (ps[k]?.getD prNo).2.data.toList)) := by
  rw [upTo, h, upL_at hk]; simp only; rw [if_pos hb, if_pos hle]
theorem below_grown {w w' : World} (h : Below w.heap.size w w') : w.grownBy w' none := ⟨h.os, h.tape, h.output, h.size, fun k hk _ => h.block k hk⟩
theorem own_below {w w' : World} {lo : Nat} {e : TypeId} {m n : Nat} {v : Value} {xs : List Value} (h : w.ownsRow lo e m v n xs) (hb : Below w.heap.size w w') : w'.ownsRow lo e m v n xs := by
  refine h.kept (below_grown hb) ?_
  cases hv : v.ownBlock with
  | none => exact .inl rfl
  | some g => exact .inr (by simp)
theorem empty_dec (z : ByteArray) : z.toList.isEmpty = decide (z.size = 0) := by
  by_cases h : z.size = 0
  · rw [list_em h, decide_eq_true h]
  · rw [list_ne (by omega), decide_eq_false h]
/-- What UnpairText hands back. -/
def RetUp (o : Option (List UInt8)) (w : World) (e : Ending) (w' : World) : Prop := e = .returned (.tuple #[.string (ofL (o.getD [])), .bool o.isSome]) ∧ Below w.heap.size w w'
def letB (z : ByteArray) : Bool := decide (z.size = 1) && vt z.data.toList
set_option maxHeartbeats 400000 in
theorem i_letterOk (z : ByteArray) (w : World) (hz : z.size ≤ maxLen) : Calls Try.prog 63 #[.string z] w fun e w' => e = .returned (.bool (letB z)) ∧ Below w.heap.size w w' := by
  unfold letB
  have hm := hz; unfold maxLen at hm
  by_cases h : z.size = 1
  · rw [decide_eq_true h, Bool.true_and]
    go_enter Try.func63, Try.ntmps63
    go_wp2_with (go_at_call 44; refine (i_ValidText z _ hz).mono ?_; rintro e w' ⟨rfl, hb⟩)
    go_ret
    exact ⟨rfl, hb⟩
  · rw [decide_eq_false h, Bool.false_and]
    have h2 : ¬ (z.size : Int) = 1 := by omega
    go_enter Try.func63, Try.ntmps63
    go_wp2_with (go_at_call 44; refine (i_ValidText z _ hz).mono ?_; rintro e w' ⟨rfl, hb⟩)
    go_ret
    exact ⟨rfl, Below.refl _ _⟩
end Go.Proofs.Ytkgdifngijeenaa
