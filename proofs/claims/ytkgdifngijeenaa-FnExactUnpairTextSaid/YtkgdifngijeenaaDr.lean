/- The walks of the functions that draw texts. -/
import Derived.Test.YtkgdifngijeenaaSt
namespace Go.Proofs.Ytkgdifngijeenaa
open Go.RowKit
set_option linter.unusedVariables false

/-- The slice of bytes that a law is given. -/
def CodeAt (W : World) (pa : Option Addr) (n cap : Nat) : Prop := n ≤ cap ∧ cap ≤ maxLen ∧ ∀ i, i < n → ∃ b off x, pa = some ⟨b, off, none⟩ ∧ b < W.heap.size ∧ 0 ≤ x ∧ x ≤ 255 ∧ W.cell? ⟨b, off + i, none⟩ = some (.int .u8 x)
def Draw1 (W : World) (e : Ending) (W' : World) : Prop := ∃ s : ByteArray, e = .returned (.string s) ∧ s.size ≤ 41 ∧ Below W.heap.size W W'
def Draw2 (W : World) (e : Ending) (W' : World) : Prop := ∃ s t : ByteArray, e = .returned (.tuple #[.string s, .string t]) ∧ s.size ≤ 41 ∧ t.size ≤ 41 ∧ Below W.heap.size W W'
theorem below_of_grown {W W1 W2 : World} {B : Nat} (h1 : Below W.heap.size W W1) (h2 : W1.grownBy W2 (some B)) (hB : W.heap.size ≤ B) : Below W.heap.size W W2 :=
  h1.grown h2 h1.size (fun k e => by cases e; exact hB)





set_option maxHeartbeats 400000 in
theorem d_DrawFewestPhrases (W : World) (pa : Option Addr) (n cap : Nat) (h : CodeAt W pa n cap) : Calls Try.prog 27 #[.slice pa n cap] W (Draw1 W) := by
  have HC := Lib.hid h; clear h
  go_enter Try.func27, Try.ntmps27
  go_wp2_with fail
  refine (d_newReader W pa n cap HC.out.1 HC.out.2.1 HC.out.2.2).mono ?_; rintro e w1 ⟨B, rfl, hrd, hb1⟩
  have hB := hrd.1
  go_wp2_with fail
  refine (d_someText w1 W.heap.size B 0 40 (by omega) (by omega) (by omega) (by omega) hrd).mono ?_; rintro e w2 ⟨s, q, rfl, hs, _, _, _, hg⟩
  go_wp2
  go_ret
  exact ⟨s, rfl, by omega, below_of_grown hb1 hg hB⟩

set_option maxHeartbeats 400000 in
theorem d_DrawPairsOf (W : World) (pa : Option Addr) (n cap : Nat) (h : CodeAt W pa n cap) : Calls Try.prog 42 #[.slice pa n cap] W (Draw1 W) := by
  have HC := Lib.hid h; clear h
  go_enter Try.func42, Try.ntmps42
  go_wp2_with fail
  refine (d_newReader W pa n cap HC.out.1 HC.out.2.1 HC.out.2.2).mono ?_; rintro e w1 ⟨B, rfl, hrd, hb1⟩
  have hB := hrd.1
  go_wp2_with fail
  refine (d_someText w1 W.heap.size B 0 40 (by omega) (by omega) (by omega) (by omega) hrd).mono ?_; rintro e w2 ⟨s, q, rfl, hs, _, _, _, hg⟩
  go_wp2
  go_ret
  exact ⟨s, rfl, by omega, below_of_grown hb1 hg hB⟩









end Go.Proofs.Ytkgdifngijeenaa
