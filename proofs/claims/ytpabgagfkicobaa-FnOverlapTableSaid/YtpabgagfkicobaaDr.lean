/- The walks of the functions that draw texts. -/
import Derived.Test.YtpabgagfkicobaaSt
namespace Go.Proofs.Ytpabgagfkicobaa
open Go.RowKit
set_option linter.unusedVariables false

/-- The slice of bytes that a law is given. -/
def CodeAt (W : World) (pa : Option Addr) (n cap : Nat) : Prop := n ≤ cap ∧ cap ≤ maxLen ∧ ∀ i, i < n → ∃ b off x, pa = some ⟨b, off, none⟩ ∧ b < W.heap.size ∧ 0 ≤ x ∧ x ≤ 255 ∧ W.cell? ⟨b, off + i, none⟩ = some (.int .u8 x)
def Draw1 (W : World) (e : Ending) (W' : World) : Prop := ∃ s : ByteArray, e = .returned (.string s) ∧ s.size ≤ 41 ∧ Below W.heap.size W W'
def Draw2 (W : World) (e : Ending) (W' : World) : Prop := ∃ s t : ByteArray, e = .returned (.tuple #[.string s, .string t]) ∧ s.size ≤ 41 ∧ t.size ≤ 41 ∧ Below W.heap.size W W'
theorem below_of_grown {W W1 W2 : World} {B : Nat} (h1 : Below W.heap.size W W1) (h2 : W1.grownBy W2 (some B)) (hB : W.heap.size ≤ B) : Below W.heap.size W W2 :=
  h1.grown h2 h1.size (fun k e => by cases e; exact hB)















end Go.Proofs.Ytpabgagfkicobaa
