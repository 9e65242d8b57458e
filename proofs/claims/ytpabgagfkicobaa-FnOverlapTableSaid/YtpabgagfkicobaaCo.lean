/- The walks of CoversOf, the reference's and the program's. -/
import Derived.Test.YtpabgagfkicobaaC
namespace Go.Proofs.Ytpabgagfkicobaa
open Go.RowKit
set_option linter.unusedVariables false

def cvB (s : List UInt8) (k : Nat) : Bool := coverB s (s.take k)
def coversL (s : List UInt8) : List Int := sel (cvB s) 1 s.length
def coversOf (s : List UInt8) : List Int := if vt s then coversL s else []
theorem coversOf_yes {s : List UInt8} (h : vt s = true) : coversOf s = coversL s := by rw [coversOf, if_pos h]
theorem coversOf_no {s : List UInt8} (h : vt s = false) : coversOf s = [] := by rw [coversOf, if_neg (by rw [h]; decide)]
theorem owns_below {w w' : World} {lo : Nat} {e : TypeId} {v : Value} {n : Nat} {xs : List Value} (h : w.ownsRow lo e 1 v n xs) (hb : Below w.heap.size w w') : w'.ownsRow lo e 1 v n xs := by
  refine ⟨h.1, ?_⟩
  rcases h.2 with hn | ⟨g, cap, cur, hv, hg, hh, r⟩
  · exact .inl hn
  · exact .inr ⟨g, cap, cur, hv, hg, (hb.block g (Array.getElem?_eq_some_iff.1 hh).1).trans hh, r⟩


end Go.Proofs.Ytpabgagfkicobaa
