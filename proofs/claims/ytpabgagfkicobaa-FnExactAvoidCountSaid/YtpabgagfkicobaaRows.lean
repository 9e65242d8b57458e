/-
  No cell of these rows narrows 'for every input' (looked for: loops, veiled, ifaces, maps, wideKeys, modest, calm, conditions, laid).
  DERIVED. THE GIVEN ROWS OF THIS SEAT. 5 by the template 'for every input the law returns true; each argument reads behind the call as it read before'; 0 by the template 'total and deterministic' (their statements: YtpabgagfkicobaaTotals.lean).
  GIVEN WITH THE SEED: the statements are not yours to turn. If you find one false, say at which input.
  Laid BY PROGRAM, IN A SANDBOX (cutbox-rows.mjs): the forced cells as the released guide's own fill.sh prints them over the translation be16a5378237d4ae… (all of the seat's roots in one cut). By AI agents, Wed Nov 11 2026. No macro, syntax, notation, axiom, sorry.
-/
import Derived.Test.YtpabgagfkicobaaChecked
import GoSem.Claim
import GoSem.ClaimJoined
import GoSem.ClaimMapViews
import Derived.JoinedTies
import Derived.KernelRfl
namespace Go.Proofs.Ytpabgagfkicobaa
/- THE CELL 'sum', in the pinned program and in every row, IS THE sha256 OF THE DUMP (.gsa) THAT YtpabgagfkicobaaProg.lean LOADS. Nothing in Lean hashes anything: it is a label: what it is worth is what the hold of that sum in a sandbox is worth. -/
noncomputable def Try.pinned : Pinned := { name := "ytpabgagfkicobaa", sum := "be16a5378237d4ae3ddba6f262b36cec38ca1c6afb4efadb358befbadd6487f9", checked := Try.checked }
namespace Rows
def none {H : Type} : Left H := { results := [], args := [] }

/-- 'laws.FnExactReduceWords': WHATEVER THE INPUT: true; the input reads as it did. -/
def fnExactReduceWordsSpec : ChangeSpec := { name := "fnExactReduceWords", fn := fun _ => fun
  | [d] => { results := [.lit (.bool true)], args := [d] }
  | _ => none }
def fnExactReduceWordsRow : OpenClaim := { program := "ytpabgagfkicobaa", sum := "be16a5378237d4ae3ddba6f262b36cec38ca1c6afb4efadb358befbadd6487f9", func := "loop.example/overlappingtexts/laws.FnExactReduceWords", spec := "fnExactReduceWords", inPlace := ["internal/bytealg.IndexByteString", "internal/bytealg.IndexString"], unfollowed := true, recurses := true, named := ["internal/bytealg.MaxLen"], apart := false }
def FnExactReduceWordsSaid : Prop := fnExactReduceWordsRow.holds Try.pinned (OpenSpec.ofChange fnExactReduceWordsSpec)

/-- ITS FALSE NEIGHBOUR: 'it returns false'. Refute it at one input. -/
def fnExactReduceWordsWrong : ChangeSpec := { name := "fnExactReduceWords", fn := fun _ => fun
  | [d] => { results := [.lit (.bool false)], args := [d] }
  | _ => none }
def FnExactReduceWordsWrongFalsely : Prop := fnExactReduceWordsRow.holds Try.pinned (OpenSpec.ofChange fnExactReduceWordsWrong)

/-- 'laws.FnExactAvoidCount': WHATEVER THE INPUT: true; the input reads as it did. -/
def fnExactAvoidCountSpec : ChangeSpec := { name := "fnExactAvoidCount", fn := fun _ => fun
  | [d1, d2, d3] => { results := [.lit (.bool true)], args := [d1, d2, d3] }
  | _ => none }
def fnExactAvoidCountRow : OpenClaim := { program := "ytpabgagfkicobaa", sum := "be16a5378237d4ae3ddba6f262b36cec38ca1c6afb4efadb358befbadd6487f9", func := "loop.example/overlappingtexts/laws.FnExactAvoidCount", spec := "fnExactAvoidCount", unfollowed := true, recurses := true, apart := false }
def FnExactAvoidCountSaid : Prop := fnExactAvoidCountRow.holds Try.pinned (OpenSpec.ofChange fnExactAvoidCountSpec)

/-- ITS FALSE NEIGHBOUR: 'it returns false'. Refute it at one input. -/
def fnExactAvoidCountWrong : ChangeSpec := { name := "fnExactAvoidCount", fn := fun _ => fun
  | [d1, d2, d3] => { results := [.lit (.bool false)], args := [d1, d2, d3] }
  | _ => none }
def FnExactAvoidCountWrongFalsely : Prop := fnExactAvoidCountRow.holds Try.pinned (OpenSpec.ofChange fnExactAvoidCountWrong)

/-- 'laws.FnExactOverlapTable': WHATEVER THE INPUT: true; the input reads as it did. -/
def fnExactOverlapTableSpec : ChangeSpec := { name := "fnExactOverlapTable", fn := fun _ => fun
  | [d] => { results := [.lit (.bool true)], args := [d] }
  | _ => none }
def fnExactOverlapTableRow : OpenClaim := { program := "ytpabgagfkicobaa", sum := "be16a5378237d4ae3ddba6f262b36cec38ca1c6afb4efadb358befbadd6487f9", func := "loop.example/overlappingtexts/laws.FnExactOverlapTable", spec := "fnExactOverlapTable", unfollowed := true, recurses := true, apart := false }
def FnExactOverlapTableSaid : Prop := fnExactOverlapTableRow.holds Try.pinned (OpenSpec.ofChange fnExactOverlapTableSpec)

/-- ITS FALSE NEIGHBOUR: 'it returns false'. Refute it at one input. -/
def fnExactOverlapTableWrong : ChangeSpec := { name := "fnExactOverlapTable", fn := fun _ => fun
  | [d] => { results := [.lit (.bool false)], args := [d] }
  | _ => none }
def FnExactOverlapTableWrongFalsely : Prop := fnExactOverlapTableRow.holds Try.pinned (OpenSpec.ofChange fnExactOverlapTableWrong)

/-- 'laws.FnOverlapTable': WHATEVER THE INPUT: true; the input reads as it did. -/
def fnOverlapTableSpec : ChangeSpec := { name := "fnOverlapTable", fn := fun _ => fun
  | [d] => { results := [.lit (.bool true)], args := [d] }
  | _ => none }
def fnOverlapTableRow : OpenClaim := { program := "ytpabgagfkicobaa", sum := "be16a5378237d4ae3ddba6f262b36cec38ca1c6afb4efadb358befbadd6487f9", func := "loop.example/overlappingtexts/laws.FnOverlapTable", spec := "fnOverlapTable", unfollowed := true, recurses := true, apart := false }
def FnOverlapTableSaid : Prop := fnOverlapTableRow.holds Try.pinned (OpenSpec.ofChange fnOverlapTableSpec)

/-- ITS FALSE NEIGHBOUR: 'it returns false'. Refute it at one input. -/
def fnOverlapTableWrong : ChangeSpec := { name := "fnOverlapTable", fn := fun _ => fun
  | [d] => { results := [.lit (.bool false)], args := [d] }
  | _ => none }
def FnOverlapTableWrongFalsely : Prop := fnOverlapTableRow.holds Try.pinned (OpenSpec.ofChange fnOverlapTableWrong)

/-- 'laws.FnExactIsSuper': WHATEVER THE INPUT: true; the input reads as it did. -/
def fnExactIsSuperSpec : ChangeSpec := { name := "fnExactIsSuper", fn := fun _ => fun
  | [d1, d2] => { results := [.lit (.bool true)], args := [d1, d2] }
  | _ => none }
def fnExactIsSuperRow : OpenClaim := { program := "ytpabgagfkicobaa", sum := "be16a5378237d4ae3ddba6f262b36cec38ca1c6afb4efadb358befbadd6487f9", func := "loop.example/overlappingtexts/laws.FnExactIsSuper", spec := "fnExactIsSuper", inPlace := ["internal/bytealg.IndexByteString", "internal/bytealg.IndexString"], unfollowed := true, recurses := true, named := ["internal/bytealg.MaxLen"], apart := false }
def FnExactIsSuperSaid : Prop := fnExactIsSuperRow.holds Try.pinned (OpenSpec.ofChange fnExactIsSuperSpec)

/-- ITS FALSE NEIGHBOUR: 'it returns false'. Refute it at one input. -/
def fnExactIsSuperWrong : ChangeSpec := { name := "fnExactIsSuper", fn := fun _ => fun
  | [d1, d2] => { results := [.lit (.bool false)], args := [d1, d2] }
  | _ => none }
def FnExactIsSuperWrongFalsely : Prop := fnExactIsSuperRow.holds Try.pinned (OpenSpec.ofChange fnExactIsSuperWrong)

/- THE SECOND FORM. 'bulk': how many values and letters a reading holds, each counted each time it is reached (what is shared counts as often as it is met; a slice's spare places count too). A statement '..UptoSaid' is the law's where the arguments, and the package variables that the reading takes, are together of bulk at most 1048576: NARROWER than '..Said'. Prove '..Said' where nothing that the law and all that it calls make is longer than what came in: it says more and counts as full. Else prove '..UptoSaid'. A law counts once. -/
mutual
def uptoBulk {H : Type} : DataW H → Nat
  | .lit (.string bytes) => bytes.length + 1
  | .lit _ => 1
  | .nil => 1
  | .ptr d => uptoBulk d + 1
  | .slice elems spare => uptoBulkAll elems + uptoBulkAll spare + 1
  | .agg parts => uptoBulkAll parts + 1
  | .iface _ d => uptoBulk d + 1
  | .map entries => uptoBulkEntries entries + 1
  | .held _ => 1
def uptoBulkAll {H : Type} : List (DataW H) → Nat
  | [] => 0
  | d :: r => uptoBulk d + uptoBulkAll r
def uptoBulkEntries {H : Type} : List (Lit × DataW H) → Nat
  | [] => 0
  | x :: r => uptoBulkEntry x + uptoBulkEntries r
def uptoBulkEntry {H : Type} : Lit × DataW H → Nat
  | (.string bytes, d) => bytes.length + uptoBulk d + 1
  | (_, d) => uptoBulk d + 1
 end
def uptoSmall : (H : Type) → List (DataW H) → Bool := fun _ ds => decide (uptoBulkAll ds ≤ 1048576)
def OpenSpec.upto (s : _root_.Go.ChangeSpec) : _root_.Go.OpenSpec := { _root_.Go.OpenSpec.ofChange s with cond := some uptoSmall }

/-- 'laws.FnExactReduceWords', WHERE WHAT IT READS IS OF BULK AT MOST 1048576: true; the input reads as it did. -/
def fnExactReduceWordsUptoRow : OpenClaim := { program := "ytpabgagfkicobaa", sum := "be16a5378237d4ae3ddba6f262b36cec38ca1c6afb4efadb358befbadd6487f9", func := "loop.example/overlappingtexts/laws.FnExactReduceWords", spec := "fnExactReduceWords", inPlace := ["internal/bytealg.IndexByteString", "internal/bytealg.IndexString"], unfollowed := true, recurses := true, named := ["internal/bytealg.MaxLen"], apart := false, narrowed := true }
def FnExactReduceWordsUptoSaid : Prop := fnExactReduceWordsUptoRow.holds Try.pinned (OpenSpec.upto fnExactReduceWordsSpec)

/-- 'laws.FnExactAvoidCount', WHERE WHAT IT READS IS OF BULK AT MOST 1048576: true; the input reads as it did. -/
def fnExactAvoidCountUptoRow : OpenClaim := { program := "ytpabgagfkicobaa", sum := "be16a5378237d4ae3ddba6f262b36cec38ca1c6afb4efadb358befbadd6487f9", func := "loop.example/overlappingtexts/laws.FnExactAvoidCount", spec := "fnExactAvoidCount", unfollowed := true, recurses := true, apart := false, narrowed := true }
def FnExactAvoidCountUptoSaid : Prop := fnExactAvoidCountUptoRow.holds Try.pinned (OpenSpec.upto fnExactAvoidCountSpec)

/-- 'laws.FnExactOverlapTable', WHERE WHAT IT READS IS OF BULK AT MOST 1048576: true; the input reads as it did. -/
def fnExactOverlapTableUptoRow : OpenClaim := { program := "ytpabgagfkicobaa", sum := "be16a5378237d4ae3ddba6f262b36cec38ca1c6afb4efadb358befbadd6487f9", func := "loop.example/overlappingtexts/laws.FnExactOverlapTable", spec := "fnExactOverlapTable", unfollowed := true, recurses := true, apart := false, narrowed := true }
def FnExactOverlapTableUptoSaid : Prop := fnExactOverlapTableUptoRow.holds Try.pinned (OpenSpec.upto fnExactOverlapTableSpec)

/-- 'laws.FnOverlapTable', WHERE WHAT IT READS IS OF BULK AT MOST 1048576: true; the input reads as it did. -/
def fnOverlapTableUptoRow : OpenClaim := { program := "ytpabgagfkicobaa", sum := "be16a5378237d4ae3ddba6f262b36cec38ca1c6afb4efadb358befbadd6487f9", func := "loop.example/overlappingtexts/laws.FnOverlapTable", spec := "fnOverlapTable", unfollowed := true, recurses := true, apart := false, narrowed := true }
def FnOverlapTableUptoSaid : Prop := fnOverlapTableUptoRow.holds Try.pinned (OpenSpec.upto fnOverlapTableSpec)

/-- 'laws.FnExactIsSuper', WHERE WHAT IT READS IS OF BULK AT MOST 1048576: true; the input reads as it did. -/
def fnExactIsSuperUptoRow : OpenClaim := { program := "ytpabgagfkicobaa", sum := "be16a5378237d4ae3ddba6f262b36cec38ca1c6afb4efadb358befbadd6487f9", func := "loop.example/overlappingtexts/laws.FnExactIsSuper", spec := "fnExactIsSuper", inPlace := ["internal/bytealg.IndexByteString", "internal/bytealg.IndexString"], unfollowed := true, recurses := true, named := ["internal/bytealg.MaxLen"], apart := false, narrowed := true }
def FnExactIsSuperUptoSaid : Prop := fnExactIsSuperUptoRow.holds Try.pinned (OpenSpec.upto fnExactIsSuperSpec)

end Rows
end Go.Proofs.Ytpabgagfkicobaa
