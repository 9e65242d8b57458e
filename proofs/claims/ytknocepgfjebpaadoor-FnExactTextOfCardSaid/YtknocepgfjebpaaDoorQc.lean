/- TextOf: the plain law. -/
import Derived.Test.YtknocepgfjebpaaDoorQa
namespace Go.Proofs.YtknocepgfjebpaaDoor
open Go.RowKit
set_option linter.unusedVariables false

/-- n letters, each that which stands so far behind f as it stands behind the end of t. -/
def copyN (t : List UInt8) (f : Nat) : Nat → List UInt8
  | 0 => t
  | k + 1 => copyN t f k ++ [(copyN t f k)[f + k]?.getD 0]
theorem copyN_len (t : List UInt8) (f n : Nat) : (copyN t f n).length = t.length + n := by
  induction n with
  | zero => rfl
  | succ n ih => rw [copyN, List.length_append, ih]; rfl
def okAll (l : List UInt8) : Bool := l.all okc
theorem copyN_ok {t : List UInt8} {f : Nat} (hf : f < t.length) (h : okAll t = true) (n : Nat) : okAll (copyN t f n) = true := by
  induction n with
  | zero => exact h
  | succ n ih =>
    unfold okAll at ih ⊢
    rw [copyN, List.all_append, ih, Bool.true_and]
    have hl := copyN_len t f n
    rw [List.getElem?_eq_getElem (by omega)]
    rw [List.all_eq_true] at ih
    simp only [List.all_cons, List.all_nil, Bool.and_true]
    exact ih _ (List.getElem_mem _)
def litOk (z : ByteArray) : Bool := decide (z.size = 1) && vt z.data.toList
/-- A phrase behind a text, as long as may be. -/
def stepT (t : List UInt8) (p : PhP) : Option (List UInt8) :=
  if p.1 = -1 then (if p.2.1 = 1 ∧ litOk p.2.2 = true then some (t ++ p.2.2.data.toList) else none)
  else if 0 ≤ p.1 ∧ p.1 ≤ (t.length : Int) - 1 ∧ 1 ≤ p.2.1 ∧ p.2.1 ≤ 40 ∧ p.2.2.size = 0 then some (copyN t p.1.toNat p.2.1.toNat) else none
def foldT (ps : List PhP) : Nat → Option (List UInt8)
  | 0 => some []
  | k + 1 => match foldT ps k with
    | none => none
    | some t => stepT t (ps[k]?.getD phNo)
theorem foldT_none {ps : List PhP} {k : Nat} (h : foldT ps k = none) {n : Nat} (hn : k ≤ n) : foldT ps n = none := by
  induction n with
  | zero => obtain rfl : k = 0 := by omega
            exact h
  | succ n ih =>
    by_cases e : k = n + 1
    · subst e; exact h
    · rw [foldT, ih (by omega)]
theorem foldT_step {ps : List PhP} {k : Nat} {t : List UInt8} (h : foldT ps k = some t) : foldT ps (k + 1) = stepT t (ps[k]?.getD phNo) := by rw [foldT, h]
theorem litOk_len {z : ByteArray} (h : litOk z = true) : z.data.toList.length = 1 ∧ okAll z.data.toList = true := by
  unfold litOk at h
  rw [Bool.and_eq_true, decide_eq_true_eq] at h
  refine ⟨by rw [list_len]; exact h.1, ?_⟩
  have := h.2
  unfold vt at this
  rw [Bool.and_eq_true] at this
  exact this.1
theorem stepT_len {t u : List UInt8} {p : PhP} (h : stepT t p = some u) : (u.length : Int) = t.length + p.2.1 ∧ 1 ≤ p.2.1 ∧ p.2.1 ≤ 40 := by
  unfold stepT at h
  split at h
  · split at h
    · rename_i h1 h2
      cases h
      rw [List.length_append, (litOk_len h2.2).1, h2.1]; omega
    · cases h
  · split at h
    · rename_i h1 h2
      cases h
      rw [copyN_len]; omega
    · cases h
theorem stepT_ok {t u : List UInt8} {p : PhP} (h : stepT t p = some u) (ht : okAll t = true) : okAll u = true := by
  unfold stepT at h
  split at h
  · split at h
    · rename_i h1 h2
      cases h
      have := (litOk_len h2.2).2
      unfold okAll at ht this ⊢
      rw [List.all_append, ht, this]; rfl
    · cases h
  · split at h
    · rename_i h1 h2
      cases h
      exact copyN_ok (by omega) ht _
    · cases h
theorem foldT_ok {ps : List PhP} {k : Nat} {t : List UInt8} (h : foldT ps k = some t) : okAll t = true := by
  induction k generalizing t with
  | zero => cases h; rfl
  | succ k ih =>
    rw [foldT] at h
    cases hk : foldT ps k with
    | none => rw [hk] at h; cases h
    | some u => rw [hk] at h; exact stepT_ok h (ih hk)
theorem foldT_bound {ps : List PhP} {k : Nat} {t : List UInt8} (h : foldT ps k = some t) : t.length ≤ 40 * k := by
  induction k generalizing t with
  | zero => cases h; exact Nat.le_refl _
  | succ k ih =>
    rw [foldT] at h
    cases hk : foldT ps k with
    | none => rw [hk] at h; cases h
    | some u => rw [hk] at h; have h1 := stepT_len h; have h2 := ih hk; omega
/-- Once too long, never fine again. -/
theorem foldT_long {ps : List PhP} {k : Nat} {t : List UInt8} (h : foldT ps k = some t) (hl : 40 < t.length) {n : Nat} (hn : k ≤ n) : ∀ u, foldT ps n = some u → 40 < u.length := by
  induction n with
  | zero => obtain rfl : k = 0 := by omega
            intro u hu; rw [h] at hu; cases hu; exact hl
  | succ n ih =>
    intro u hu
    by_cases e : k = n + 1
    · subst e; rw [h] at hu; cases hu; exact hl
    · rw [foldT] at hu
      cases hk : foldT ps n with
      | none => rw [hk] at hu; cases hu
      | some v =>
        rw [hk] at hu
        have h1 := stepT_len hu
        have h2 := ih (by omega) v hk
        omega
def textO (ps : List PhP) : Option (List UInt8) :=
  if ps.length ≤ 40 then (match foldT ps ps.length with
    | none => none
    | some t => if t.length ≤ 40 then some t else none) else none
theorem textO_big {ps : List PhP} (h : ¬ ps.length ≤ 40) : textO ps = none := by unfold textO; rw [if_neg h]
theorem textO_bad {ps : List PhP} {k : Nat} (h : foldT ps k = none) (hk : k ≤ ps.length) : textO ps = none := by
  unfold textO; split
  · rw [foldT_none h hk]
  · rfl
theorem textO_long {ps : List PhP} {k : Nat} {t : List UInt8} (h : foldT ps k = some t) (hl : 40 < t.length) (hk : k ≤ ps.length) : textO ps = none := by
  unfold textO; split
  · cases hn : foldT ps ps.length with
    | none => rfl
    | some u =>
      have := foldT_long h hl hk u hn
      show (if u.length ≤ 40 then some u else none) = none
      rw [if_neg (by omega)]
  · rfl
theorem textO_good {ps : List PhP} {t : List UInt8} (h40 : ps.length ≤ 40) (h : foldT ps ps.length = some t) (hl : t.length ≤ 40) : textO ps = some t := by
  unfold textO; rw [if_pos h40, h]; simp [hl]
theorem vt_of_fold {ps : List PhP} {k : Nat} {t : List UInt8} (h : foldT ps k = some t) : vt t = decide (t.length ≤ 40) := by
  have := foldT_ok h
  unfold okAll at this
  unfold vt; rw [this, Bool.true_and]
/-- What TextOf hands back. -/
def ofLT (l : List UInt8) : ByteArray := ⟨l.toArray⟩
theorem ofLT_of {b : ByteArray} {l : List UInt8} (h : b.data.toList = l) : b = ofLT l := by subst h; rfl
def RetT (ps : List PhP) (w : World) (e : Ending) (w' : World) : Prop := e = .returned (.tuple #[.string (ofLT ((textO ps).getD [])), .bool (textO ps).isSome]) ∧ Below w.heap.size w w'
theorem RetT.no {ps : List PhP} {w w' : World} (h : textO ps = none) (hb : Below w.heap.size w w') : RetT ps w (.returned (.tuple #[.string ⟨#[]⟩, .bool false])) w' := by unfold RetT; rw [h]; exact ⟨rfl, hb⟩
theorem RetT.yes {ps : List PhP} {w w' : World} {t : ByteArray} (h : textO ps = some t.data.toList) (hb : Below w.heap.size w w') : RetT ps w (.returned (.tuple #[.string t, .bool true])) w' := by unfold RetT; rw [h]; exact ⟨by rw [Option.getD_some, ← ofLT_of rfl]; rfl, hb⟩
end Go.Proofs.YtknocepgfjebpaaDoor
