/- The pairs of a text, and the text of pairs, as plain functions; pairs are read back, and no two of them are the same but the last one. -/
import Derived.Test.YtkgdifngijeenaaO
namespace Go.Proofs.Ytkgdifngijeenaa
open Go.RowKit
set_option linter.unusedVariables false

/-- The list w begins the list r. -/
def isPre (r w : List UInt8) : Bool := decide (r.take w.length = w)
theorem isPre_le {r w : List UInt8} (h : isPre r w = true) : w.length ≤ r.length := by
  have e := congrArg List.length (of_decide_eq_true h)
  rw [List.length_take] at e; omega
theorem isPre_nil (r : List UInt8) : isPre r [] = true := by unfold isPre; simp
def rowAt (rows : List (List UInt8)) (i : Nat) : List UInt8 := rows[i]?.getD []
theorem rowAt_app {rows : List (List UInt8)} {i : Nat} (h : i < rows.length) (q : List (List UInt8)) : rowAt (rows ++ q) i = rowAt rows i := by
  unfold rowAt; rw [List.getElem?_append_left h]
theorem rowAt_last (rows : List (List UInt8)) (q : List UInt8) : rowAt (rows ++ [q]) rows.length = q := by
  unfold rowAt; rw [List.getElem?_append_right (Nat.le_refl _), Nat.sub_self]; rfl
/-- Which of the rows 1 up to n is the longest beginning of r (0: none). -/
def bkTo (rows : List (List UInt8)) (r : List UInt8) : Nat → Nat
  | 0 => 0
  | n + 1 => if isPre r (rowAt rows (n + 1)) && decide ((rowAt rows (bkTo rows r n)).length < (rowAt rows (n + 1)).length) then n + 1 else bkTo rows r n
def bk (rows : List (List UInt8)) (r : List UInt8) : Nat := bkTo rows r (rows.length - 1)
theorem bkTo_le (rows : List (List UInt8)) (r : List UInt8) (n : Nat) : bkTo rows r n ≤ n := by
  induction n with
  | zero => exact Nat.le_refl _
  | succ n ih => unfold bkTo; split <;> omega
theorem bkTo_pre {rows : List (List UInt8)} (r : List UInt8) (h0 : rowAt rows 0 = []) (n : Nat) : isPre r (rowAt rows (bkTo rows r n)) = true := by
  induction n with
  | zero => show isPre r (rowAt rows 0) = true; rw [h0]; exact isPre_nil _
  | succ n ih =>
    unfold bkTo
    by_cases h : (isPre r (rowAt rows (n + 1)) && decide ((rowAt rows (bkTo rows r n)).length < (rowAt rows (n + 1)).length)) = true
    · rw [if_pos h]; rw [Bool.and_eq_true] at h; exact h.1
    · rw [if_neg h]; exact ih
theorem bkTo_max (rows : List (List UInt8)) (r : List UInt8) (n : Nat) : ∀ i, i ≤ n → isPre r (rowAt rows i) = true → rowAt rows 0 = [] → (rowAt rows i).length ≤ (rowAt rows (bkTo rows r n)).length := by
  induction n with
  | zero => intro i hi _ _; obtain rfl : i = 0 := by omega
            exact Nat.le_refl _
  | succ n ih =>
    intro i hi hp h0
    unfold bkTo
    by_cases h : (isPre r (rowAt rows (n + 1)) && decide ((rowAt rows (bkTo rows r n)).length < (rowAt rows (n + 1)).length)) = true
    · rw [if_pos h]
      rw [Bool.and_eq_true, decide_eq_true_eq] at h
      by_cases e : i = n + 1
      · rw [e]; exact Nat.le_refl _
      · have := ih i (by omega) hp h0; omega
    · rw [if_neg h]
      by_cases e : i = n + 1
      · subst e
        rw [hp, Bool.true_and, decide_eq_true_eq] at h; omega
      · exact ih i (by omega) hp h0

/-- What is left of the text, the rows so far, the pairs so far. -/
abbrev PrSt := List UInt8 × List (List UInt8) × List (Nat × List UInt8)
def prRow (st : PrSt) : List UInt8 := rowAt st.2.1 (bk st.2.1 st.1)
def prLet (st : PrSt) : List UInt8 := (st.1.drop (prRow st).length).take 1
def prStep (st : PrSt) : PrSt := (st.1.drop ((prRow st).length + 1), st.2.1 ++ [prRow st ++ prLet st], st.2.2 ++ [(bk st.2.1 st.1, prLet st)])
def prTo (s : List UInt8) : Nat → PrSt
  | 0 => (s, [[]], [])
  | n + 1 => if (prTo s n).1 = [] then prTo s n else prStep (prTo s n)
def pairsL (s : List UInt8) : List (Nat × List UInt8) := (prTo s s.length).2.2
theorem prTo_go {s : List UInt8} {n : Nat} (h : (prTo s n).1 ≠ []) : prTo s (n + 1) = prStep (prTo s n) := by show (if _ then _ else _) = _; rw [if_neg h]
theorem prTo_end {s : List UInt8} {n : Nat} (h : (prTo s n).1 = []) : prTo s (n + 1) = prTo s n := by show (if _ then _ else _) = _; rw [if_pos h]
theorem prTo_stay {s : List UInt8} {n : Nat} (h : (prTo s n).1 = []) (k : Nat) : prTo s (n + k) = prTo s n := by
  induction k with
  | zero => rfl
  | succ k ih => rw [← Nat.add_assoc, prTo_end (by rw [ih]; exact h), ih]
theorem prTo_less (s : List UInt8) (n : Nat) : (prTo s n).1 = [] ∨ (prTo s n).1.length + n ≤ s.length := by
  induction n with
  | zero => exact .inr (Nat.le_refl _)
  | succ n ih =>
    by_cases h : (prTo s n).1 = []
    · rw [prTo_end h]; exact .inl h
    · rcases ih with h' | ih
      · exact absurd h' h
      · rw [prTo_go h]
        show (prTo s n).1.drop _ = [] ∨ ((prTo s n).1.drop _).length + (n + 1) ≤ _
        rw [List.length_drop]
        by_cases hl : (prTo s n).1.length ≤ (prRow (prTo s n)).length + 1
        · exact .inl (List.drop_of_length_le hl)
        · exact .inr (by omega)
theorem prTo_done (s : List UInt8) : (prTo s s.length).1 = [] := by
  rcases prTo_less s s.length with h | h
  · exact h
  · exact List.length_eq_zero_iff.1 (by omega)
theorem prTo_final {s : List UInt8} {n : Nat} (h : (prTo s n).1 = []) : prTo s n = prTo s s.length := by
  rcases Nat.le_total n s.length with hl | hl
  · have := prTo_stay h (s.length - n); rw [show n + (s.length - n) = s.length by omega] at this; exact this.symm
  · have := prTo_stay (prTo_done s) (n - s.length); rw [show s.length + (n - s.length) = n by omega] at this; exact this

/-- What holds of every stage. -/
structure PrOk (s : List UInt8) (st : PrSt) : Prop where
  len : st.2.1.length = st.2.2.length + 1
  first : rowAt st.2.1 0 = []
  all : s = st.2.1.flatten ++ st.1
  back : ∀ i p, st.2.2[i]? = some p → p.1 ≤ i ∧ p.2.length ≤ 1 ∧ rowAt st.2.1 (i + 1) = rowAt st.2.1 p.1 ++ p.2 ∧ (∀ c, c ∈ p.2 → c ∈ s)
  lets : ∀ i p, st.2.2[i]? = some p → p.2 = [] → st.1 = [] ∧ i + 1 = st.2.2.length ∧ 1 ≤ p.1
  diff : ∀ i j, i < j → j < st.2.1.length → (st.1 ≠ [] ∨ j + 1 < st.2.1.length) → rowAt st.2.1 i ≠ rowAt st.2.1 j
theorem prOk_start (s : List UInt8) : PrOk s (s, [[]], []) where
  len := rfl
  first := rfl
  all := by simp
  back := fun i p h => by simp at h
  lets := fun i p h => by simp at h
  diff := fun i j h1 h2 => by simp at h2; omega
theorem bk_lt {s : List UInt8} {st : PrSt} (h : PrOk s st) : bk st.2.1 st.1 ≤ st.2.2.length := by
  have := bkTo_le st.2.1 st.1 (st.2.1.length - 1); have := h.len; unfold bk; omega
theorem bk_pre {s : List UInt8} {st : PrSt} (h : PrOk s st) : isPre st.1 (prRow st) = true := bkTo_pre _ h.first _
theorem bk_max {s : List UInt8} {st : PrSt} (h : PrOk s st) {i : Nat} (hi : i < st.2.1.length) (hp : isPre st.1 (rowAt st.2.1 i) = true) : (rowAt st.2.1 i).length ≤ (prRow st).length :=
  bkTo_max _ _ _ i (by have := h.len; omega) hp h.first
theorem pr_cut {s : List UInt8} {st : PrSt} (h : PrOk s st) : st.1 = (prRow st ++ prLet st) ++ st.1.drop ((prRow st).length + 1) := by
  have hp := of_decide_eq_true (bk_pre h)
  have e1 : st.1 = prRow st ++ st.1.drop (prRow st).length := by
    have := List.take_append_drop (prRow st).length st.1
    rw [hp] at this; exact this.symm
  have e2 : st.1.drop (prRow st).length = prLet st ++ st.1.drop ((prRow st).length + 1) := by
    have := List.take_append_drop 1 (st.1.drop (prRow st).length)
    rw [List.drop_drop] at this; exact this.symm
  rw [List.append_assoc, ← e2]; exact e1
theorem prLet_len {st : PrSt} : (prLet st).length ≤ 1 := by unfold prLet; rw [List.length_take]; omega
theorem prLet_nil {s : List UInt8} {st : PrSt} (h : PrOk s st) (e : prLet st = []) : prRow st = st.1 := by
  have h1 := congrArg List.length e
  unfold prLet at h1
  rw [List.length_take, List.length_drop, List.length_nil] at h1
  have hp := of_decide_eq_true (bk_pre h)
  have := isPre_le (bk_pre h)
  rw [List.take_of_length_le (by omega)] at hp; exact hp.symm
/-- A row with a letter more is no row ahead. -/
theorem pr_new {s : List UInt8} {st : PrSt} (h : PrOk s st) (e : prLet st ≠ []) {i : Nat} (hi : i < st.2.1.length) : rowAt st.2.1 i ≠ prRow st ++ prLet st := by
  intro he
  have hc := pr_cut h
  have hp : isPre st.1 (rowAt st.2.1 i) = true := by
    unfold isPre; rw [he, decide_eq_true_eq]
    conv => lhs; rw [hc]
    rw [List.take_left']; rfl
  have hm := bk_max h hi hp
  rw [he, List.length_append] at hm
  have : 0 < (prLet st).length := List.length_pos_iff.2 e
  omega
theorem prOk_step {s : List UInt8} {st : PrSt} (h : PrOk s st) (hne : st.1 ≠ []) : PrOk s (prStep st) := by
  have hlen := h.len
  have hb := bk_lt h
  have hrl : rowAt (st.2.1 ++ [prRow st ++ prLet st]) (st.2.2.length + 1) = prRow st ++ prLet st := by rw [← hlen]; exact rowAt_last _ _
  constructor
  · show (st.2.1 ++ [_]).length = (st.2.2 ++ [_]).length + 1
    rw [List.length_append, List.length_append, List.length_singleton, List.length_singleton]; omega
  · show rowAt (st.2.1 ++ [_]) 0 = []
    rw [rowAt_app (by omega)]; exact h.first
  · show s = (st.2.1 ++ [_]).flatten ++ st.1.drop _
    rw [List.flatten_append, List.flatten_singleton, List.append_assoc, ← pr_cut h]; exact h.all
  · intro i p hp
    change (st.2.2 ++ [_])[i]? = some p at hp
    show p.1 ≤ i ∧ p.2.length ≤ 1 ∧ rowAt (st.2.1 ++ [_]) (i + 1) = rowAt (st.2.1 ++ [_]) p.1 ++ p.2 ∧ _
    by_cases hi : i < st.2.2.length
    · rw [List.getElem?_append_left hi] at hp
      obtain ⟨h1, h2, h3, h4⟩ := h.back i p hp
      refine ⟨h1, h2, ?_, h4⟩
      rw [rowAt_app (by omega), rowAt_app (by omega)]; exact h3
    · have hi2 : i = st.2.2.length := by
        have := (List.getElem?_eq_some_iff.1 hp).1
        rw [List.length_append, List.length_singleton] at this; omega
      subst hi2
      rw [List.getElem?_append_right (Nat.le_refl _), Nat.sub_self] at hp
      simp only [List.getElem?_cons_zero, Option.some.injEq] at hp
      subst hp
      refine ⟨hb, prLet_len, ?_, ?_⟩
      · show rowAt _ _ = rowAt _ (bk st.2.1 st.1) ++ prLet st
        rw [hrl, rowAt_app (by omega)]; rfl
      · intro c hc
        have hc2 : c ∈ st.1 := List.mem_of_mem_drop (List.mem_of_mem_take hc)
        rw [h.all]; exact List.mem_append_right _ hc2
  · intro i p hp he
    change (st.2.2 ++ [_])[i]? = some p at hp
    show st.1.drop _ = [] ∧ i + 1 = (st.2.2 ++ [_]).length ∧ 1 ≤ p.1
    rw [List.length_append, List.length_singleton]
    by_cases hi : i < st.2.2.length
    · rw [List.getElem?_append_left hi] at hp
      exact absurd (h.lets i p hp he).1 hne
    · have hi2 : i = st.2.2.length := by
        have := (List.getElem?_eq_some_iff.1 hp).1
        rw [List.length_append, List.length_singleton] at this; omega
      subst hi2
      rw [List.getElem?_append_right (Nat.le_refl _), Nat.sub_self] at hp
      simp only [List.getElem?_cons_zero, Option.some.injEq] at hp
      subst hp
      have er := prLet_nil h he
      refine ⟨List.drop_of_length_le (by rw [er]; omega), rfl, ?_⟩
      show 1 ≤ bk st.2.1 st.1
      rcases Nat.eq_zero_or_pos (bk st.2.1 st.1) with h0 | h0
      · exfalso
        unfold prRow at er; rw [h0, h.first] at er
        exact hne er.symm
      · exact h0
  · intro i j hij hj hc
    change j < (st.2.1 ++ [_]).length at hj
    change st.1.drop _ ≠ [] ∨ j + 1 < (st.2.1 ++ [_]).length at hc
    show rowAt (st.2.1 ++ [_]) i ≠ rowAt (st.2.1 ++ [_]) j
    rw [List.length_append, List.length_singleton] at hj hc
    by_cases hjl : j < st.2.1.length
    · rw [rowAt_app (by omega), rowAt_app hjl]
      exact h.diff i j hij hjl (.inl hne)
    · have hj2 : j = st.2.1.length := by omega
      subst hj2
      rw [rowAt_app hij, rowAt_last]
      refine pr_new h ?_ hij
      intro e
      rcases hc with hc | hc
      · exact hc (List.drop_of_length_le (by rw [prLet_nil h e]; omega))
      · omega
theorem prOk (s : List UInt8) (n : Nat) : PrOk s (prTo s n) := by
  induction n with
  | zero => exact prOk_start s
  | succ n ih =>
    by_cases h : (prTo s n).1 = []
    · rw [prTo_end h]; exact ih
    · rw [prTo_go h]; exact prOk_step ih h
theorem prTo_out (s : List UInt8) (n : Nat) : (prTo s n).2.2.length ≤ n := by
  induction n with
  | zero => exact Nat.le_refl _
  | succ n ih =>
    by_cases h : (prTo s n).1 = []
    · rw [prTo_end h]; omega
    · rw [prTo_go h]; show (_ ++ [_]).length ≤ _; rw [List.length_append, List.length_singleton]; omega
theorem pairsL_len (s : List UInt8) : (pairsL s).length ≤ s.length := prTo_out s s.length

/-- No two pairs are the same but the last one. -/
theorem pairs_diff (s : List UInt8) {i k : Nat} (hk : k < i) (hi : i + 1 < (pairsL s).length) : (pairsL s)[i]? ≠ (pairsL s)[k]? := by
  intro e
  have hok := prOk s s.length
  have hlen := hok.len
  have hi1 : (pairsL s)[i]? = some (pairsL s)[i] := List.getElem?_eq_getElem (by omega)
  obtain ⟨_, _, h1, _⟩ := hok.back i _ hi1
  obtain ⟨_, _, h2, _⟩ := hok.back k _ (e ▸ hi1)
  refine hok.diff (k + 1) (i + 1) (by omega) ?_ ?_ (h2.trans h1.symm)
  · unfold pairsL at hi; omega
  · unfold pairsL at hi; exact .inr (by omega)

/-- One pair may stand at place i of n. -/
def upOk (n i : Nat) (b : Int) (l : List UInt8) : Bool :=
  decide (0 ≤ b) && decide (b ≤ i) && ((decide (l.length = 1) && vt l) || (decide (l = []) && decide (i + 1 = n) && decide (1 ≤ b)))
def upTo (n : Nat) (ps : List (Int × List UInt8)) : Nat → Option (List (List UInt8) × List UInt8)
  | 0 => some ([[]], [])
  | i + 1 => match upTo n ps i, ps[i]? with
    | some (rows, text), some p => if upOk n i p.1 p.2 then (if (text ++ (rowAt rows p.1.toNat ++ p.2)).length ≤ 40 then some (rows ++ [rowAt rows p.1.toNat ++ p.2], text ++ (rowAt rows p.1.toNat ++ p.2)) else none) else none
    | _, _ => none
def unpair (ps : List (Int × List UInt8)) : Option (List UInt8) := if ps.length ≤ 40 then (upTo ps.length ps ps.length).map (·.2) else none
def intP (ps : List (Nat × List UInt8)) : List (Int × List UInt8) := ps.map fun p => ((p.1 : Int), p.2)
theorem flatten_take_le (rows : List (List UInt8)) (k : Nat) : (rows.take k).flatten.length ≤ rows.flatten.length := by
  have := congrArg (fun l => l.flatten.length) (List.take_append_drop k rows)
  simp only [List.flatten_append, List.length_append] at this; omega
theorem up_pairs {s : List UInt8} (hv : vt s = true) (i : Nat) (hi : i ≤ (pairsL s).length) :
    upTo (pairsL s).length (intP (pairsL s)) i = some ((prTo s s.length).2.1.take (i + 1), ((prTo s s.length).2.1.take (i + 1)).flatten) := by
  have hok := prOk s s.length
  have hlen := hok.len
  have hs : s.length ≤ 40 := by unfold vt at hv; rw [Bool.and_eq_true, decide_eq_true_eq] at hv; exact hv.2
  have hall : ∀ c, c ∈ s → okc c = true := by unfold vt at hv; rw [Bool.and_eq_true, List.all_eq_true] at hv; exact hv.1
  have hfl : (prTo s s.length).2.1.flatten.length ≤ 40 := by
    have := congrArg List.length hok.all; rw [List.length_append] at this; omega
  have hpl : pairsL s = (prTo s s.length).2.2 := rfl
  induction i with
  | zero =>
    have h0 := hok.first
    cases hr : (prTo s s.length).2.1 with
    | nil => rw [hr] at hlen; simp at hlen
    | cons a l =>
      rw [hr] at h0
      obtain rfl : a = [] := h0
      rfl
  | succ i ih =>
    have hp : (pairsL s)[i]? = some (pairsL s)[i] := List.getElem?_eq_getElem (by omega)
    obtain ⟨b1, b2, b3, b4⟩ := hok.back i _ hp
    have hlet := hok.lets i _ hp
    rw [← hpl] at hlet
    obtain ⟨p, hpd⟩ : ∃ p, p = (pairsL s)[i] := ⟨_, rfl⟩
    rw [← hpd] at hp b1 b2 b3 b4 hlet
    have hpi : (intP (pairsL s))[i]? = some ((p.1 : Int), p.2) := by unfold intP; rw [List.getElem?_map, hp]; rfl
    have hrow : rowAt ((prTo s s.length).2.1.take (i + 1)) p.1 = rowAt (prTo s s.length).2.1 p.1 := by
      unfold rowAt; rw [List.getElem?_take_of_lt (by omega)]
    have hnext : (prTo s s.length).2.1.take (i + 1 + 1) = (prTo s s.length).2.1.take (i + 1) ++ [rowAt (prTo s s.length).2.1 (i + 1)] := by
      rw [List.take_succ_eq_append_getElem (by rw [hlen, ← hpl]; omega)]
      unfold rowAt; rw [List.getElem?_eq_getElem (by rw [hlen, ← hpl]; omega)]; rfl
    have hu : upOk (pairsL s).length i (p.1 : Int) p.2 = true := by
      unfold upOk
      rw [decide_eq_true (by omega), decide_eq_true (by omega), Bool.true_and, Bool.true_and, Bool.or_eq_true]
      by_cases h0 : p.2 = []
      · obtain ⟨_, h2, h3⟩ := hlet h0
        right
        rw [decide_eq_true h0, decide_eq_true h2, decide_eq_true (by omega)]; rfl
      · left
        have h1 : p.2.length = 1 := by have := List.length_pos_iff.2 h0; omega
        rw [decide_eq_true h1, Bool.true_and]
        unfold vt; rw [Bool.and_eq_true, List.all_eq_true]
        exact ⟨fun c hc => hall c (b4 c hc), decide_eq_true (by omega)⟩
    have hlen2 := flatten_take_le (prTo s s.length).2.1 (i + 1 + 1)
    have hfn : ((prTo s s.length).2.1.take (i + 1 + 1)).flatten = ((prTo s s.length).2.1.take (i + 1)).flatten ++ (rowAt (prTo s s.length).2.1 p.1 ++ p.2) := by
      rw [hnext, List.flatten_append, List.flatten_singleton, b3]
    rw [hfn] at hlen2
    rw [upTo, ih (by omega), hpi]
    simp only [Int.toNat_natCast]
    rw [if_pos hu, hrow, if_pos (by omega), hfn, hnext, b3]
/-- Pairs are read back. -/
theorem unpair_pairs {s : List UInt8} (hv : vt s = true) : unpair (intP (pairsL s)) = some s := by
  have hok := prOk s s.length
  have hlen := hok.len
  have hs : s.length ≤ 40 := by unfold vt at hv; rw [Bool.and_eq_true, decide_eq_true_eq] at hv; exact hv.2
  have hl : (intP (pairsL s)).length = (pairsL s).length := by unfold intP; rw [List.length_map]
  unfold unpair
  rw [hl, if_pos (by have := pairsL_len s; omega), up_pairs hv _ (Nat.le_refl _)]
  have e : (prTo s s.length).2.1.take ((pairsL s).length + 1) = (prTo s s.length).2.1 := List.take_of_length_le (by rw [hlen]; exact Nat.le_refl _)
  rw [e]
  have h2 := hok.all
  rw [prTo_done, List.append_nil] at h2
  show some _ = some s
  rw [← h2]
end Go.Proofs.Ytkgdifngijeenaa
