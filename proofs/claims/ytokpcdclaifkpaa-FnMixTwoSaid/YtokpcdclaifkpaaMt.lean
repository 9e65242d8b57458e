/- The mixture of two texts as a plain function: what the reference's loop and the program's loop choose. -/
import Derived.Test.YtokpcdclaifkpaaMx
namespace Go.Proofs.Ytokpcdclaifkpaa
open Go.RowKit
set_option linter.unusedVariables false

def takeA (x y : UInt8) (xs ys : List UInt8) : Bool :=
  decide (scs xs (y :: ys) + 1 = scs (x :: xs) (y :: ys)) && (!decide (scs (x :: xs) ys + 1 = scs (x :: xs) (y :: ys)) || decide (x.toNat < y.toNat))
def mixGo (x : UInt8) (xs : List UInt8) (m : List UInt8 → List UInt8) : List UInt8 → List UInt8
  | [] => x :: xs
  | y :: ys => if x = y then x :: m ys else if takeA x y xs ys then x :: m (y :: ys) else y :: mixGo x xs m ys
def mix : List UInt8 → List UInt8 → List UInt8
  | [] => fun b => b
  | x :: xs => mixGo x xs (mix xs)
theorem mix_nil (b : List UInt8) : mix [] b = b := rfl
theorem mix_nil' (a : List UInt8) : mix a [] = a := by cases a <;> rfl
theorem mix_cons (x y : UInt8) (xs ys : List UInt8) : mix (x :: xs) (y :: ys) = if x = y then x :: mix xs ys else if takeA x y xs ys then x :: mix xs (y :: ys) else y :: mix (x :: xs) ys := rfl

theorem scs_diff {x y : UInt8} (xs ys : List UInt8) (h : x ≠ y) : scs (x :: xs) (y :: ys) = 1 + min (scs xs (y :: ys)) (scs (x :: xs) ys) := by rw [scs_cons, if_neg h]
theorem takeA_yes {x y : UInt8} {xs ys : List UInt8} (h : takeA x y xs ys = true) : scs xs (y :: ys) + 1 = scs (x :: xs) (y :: ys) := by
  unfold takeA at h; rw [Bool.and_eq_true, decide_eq_true_eq] at h; exact h.1
theorem takeA_no {x y : UInt8} {xs ys : List UInt8} (hne : x ≠ y) (h : takeA x y xs ys = false) : scs (x :: xs) ys + 1 = scs (x :: xs) (y :: ys) := by
  have hd := scs_diff xs ys hne
  by_cases e : scs (x :: xs) ys + 1 = scs (x :: xs) (y :: ys)
  · exact e
  · exfalso
    have e1 : scs xs (y :: ys) + 1 = scs (x :: xs) (y :: ys) := by omega
    unfold takeA at h
    rw [decide_eq_true e1, decide_eq_false e] at h
    simp at h
theorem mix_len : ∀ a b : List UInt8, (mix a b).length = scs a b := by
  intro a
  induction a with
  | nil => intro b; rfl
  | cons x xs ih =>
    intro b
    induction b with
    | nil => rw [mix_nil', scs_nil']
    | cons y ys ihb =>
      rw [mix_cons]
      by_cases e : x = y
      · rw [if_pos e, List.length_cons, ih, scs_cons, if_pos e]; omega
      · rw [if_neg e]
        cases h : takeA x y xs ys with
        | true => rw [if_pos rfl, List.length_cons, ih]; exact takeA_yes h
        | false => rw [if_neg (by decide), List.length_cons, ihb]; exact takeA_no e h

/-- The mixture of what stands behind i and behind k. -/
def mixT (a b : List UInt8) (i k : Nat) : List UInt8 := mix (a.drop i) (b.drop k)
theorem mixT_out {a b : ByteArray} {i k : Nat} (h1 : a.size ≤ i) (h2 : b.size ≤ k) : mixT a.data.toList b.data.toList i k = [] := by
  unfold mixT; rw [List.drop_of_length_le (by rw [list_len]; exact h1), mix_nil, List.drop_of_length_le (by rw [list_len]; exact h2)]
theorem mixT_row {a b : ByteArray} {i k : Nat} (h1 : a.size ≤ i) (h2 : k < b.size) : mixT a.data.toList b.data.toList i k = b[k] :: mixT a.data.toList b.data.toList i (k + 1) := by
  unfold mixT; rw [List.drop_of_length_le (by rw [list_len]; exact h1), mix_nil, mix_nil]; exact drop_cons b k h2
theorem mixT_col {a b : ByteArray} {i k : Nat} (h1 : i < a.size) (h2 : b.size ≤ k) : mixT a.data.toList b.data.toList i k = a[i] :: mixT a.data.toList b.data.toList (i + 1) k := by
  unfold mixT; rw [List.drop_of_length_le (l := b.data.toList) (by rw [list_len]; exact h2), mix_nil', mix_nil']; exact drop_cons a i h1
theorem mixT_eq {a b : ByteArray} {i k : Nat} (h1 : i < a.size) (h2 : k < b.size) (h : a[i] = b[k]) : mixT a.data.toList b.data.toList i k = a[i] :: mixT a.data.toList b.data.toList (i + 1) (k + 1) := by
  unfold mixT; rw [drop_cons a i h1, drop_cons b k h2, mix_cons, if_pos h]
/-- The first text's letter is taken. -/
def firstT (a b : ByteArray) (i k : Nat) (h1 : i < a.size) (h2 : k < b.size) : Bool :=
  decide (scsT a.data.toList b.data.toList (i + 1) k = scsT a.data.toList b.data.toList i k - 1) && (!decide (scsT a.data.toList b.data.toList i (k + 1) = scsT a.data.toList b.data.toList i k - 1) || decide (a[i].toNat < b[k].toNat))
theorem takeA_first {a b : ByteArray} {i k : Nat} (h1 : i < a.size) (h2 : k < b.size) : takeA a[i] b[k] (a.data.toList.drop (i + 1)) (b.data.toList.drop (k + 1)) = firstT a b i k h1 h2 := by
  unfold takeA firstT scsT
  rw [drop_cons a i h1, drop_cons b k h2]
  congr 1
  · rw [decide_eq_decide]; omega
  · congr 2
    rw [decide_eq_decide]; omega
theorem mixT_first {a b : ByteArray} {i k : Nat} (h1 : i < a.size) (h2 : k < b.size) (h : a[i] ≠ b[k]) (hf : firstT a b i k h1 h2 = true) : mixT a.data.toList b.data.toList i k = a[i] :: mixT a.data.toList b.data.toList (i + 1) k := by
  have e := takeA_first h1 h2
  unfold mixT
  rw [drop_cons a i h1, drop_cons b k h2, mix_cons, if_neg h, if_pos (e.trans hf)]
theorem mixT_second {a b : ByteArray} {i k : Nat} (h1 : i < a.size) (h2 : k < b.size) (h : a[i] ≠ b[k]) (hf : firstT a b i k h1 h2 = false) : mixT a.data.toList b.data.toList i k = b[k] :: mixT a.data.toList b.data.toList i (k + 1) := by
  have e := takeA_first h1 h2
  unfold mixT
  rw [drop_cons a i h1, drop_cons b k h2, mix_cons, if_neg h, if_neg (by rw [e, hf]; decide)]
/-- The table of the longest common rows, told by that of the shortest mixtures. -/
theorem lcsT_scsT {a b : ByteArray} {i k : Nat} (h1 : i ≤ a.size) (h2 : k ≤ b.size) : lcsT a.data.toList b.data.toList i k = (a.size : Int) - i + b.size - k - scsT a.data.toList b.data.toList i k := by
  have := scs_lcs _ (a.data.toList.drop i) (b.data.toList.drop k) (Nat.le_refl _)
  rw [List.length_drop, List.length_drop, list_len, list_len] at this
  unfold lcsT scsT; omega

def mixB (a b : ByteArray) : ByteArray := if vt a.data.toList && vt b.data.toList && decide (scs a.data.toList b.data.toList ≤ 40) then ⟨(mix a.data.toList b.data.toList).toArray⟩ else ⟨#[]⟩
def mixOk (a b : ByteArray) : Bool := vt a.data.toList && vt b.data.toList && decide (scs a.data.toList b.data.toList ≤ 40)
def RetMix (a b : ByteArray) (w : World) (e : Ending) (w' : World) : Prop := e = .returned (.tuple #[.string (mixB a b), .bool (mixOk a b)]) ∧ Below w.heap.size w w'
theorem mixB_no {a b : ByteArray} (h : mixOk a b = false) : mixB a b = ⟨#[]⟩ := by
  unfold mixOk at h; unfold mixB; rw [h]; rfl
theorem mixB_yes {a b : ByteArray} (h : mixOk a b = true) : mixB a b = ⟨(mix a.data.toList b.data.toList).toArray⟩ := by
  unfold mixOk at h; unfold mixB; rw [if_pos h]
end Go.Proofs.Ytokpcdclaifkpaa
