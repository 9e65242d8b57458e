/-
  No cell of these rows narrows 'for every input' (looked for: loops, veiled, ifaces, maps, wideKeys, modest, calm, conditions, laid).
  DERIVED. THE GIVEN ROWS OF THIS SEAT. 12 by the template 'for every input the law returns true; each argument reads behind the call as it read before'; 0 by the template 'total and deterministic' (their statements: YtefnaimopkmpmaaTotals.lean).
  GIVEN WITH THE SEED: the statements are not yours to turn. If you find one false, say at which input.
  Laid BY PROGRAM, IN A SANDBOX (cutbox-rows.mjs): the forced cells as the released guide's own fill.sh prints them over the translation d6f234f82a1bcd97… (all of the seat's roots in one cut). By AI agents, Wed Nov 11 2026. No macro, syntax, notation, axiom, sorry.
-/
import Derived.Test.YtefnaimopkmpmaaChecked
import GoSem.Claim
import GoSem.ClaimJoined
import GoSem.ClaimMapViews
import Derived.JoinedTies
import Derived.KernelRfl
namespace Go.Proofs.Ytefnaimopkmpmaa
/- THE CELL 'sum', in the pinned program and in every row, IS THE sha256 OF THE DUMP (.gsa) THAT YtefnaimopkmpmaaProg.lean LOADS. Nothing in Lean hashes anything: it is a label: what it is worth is what the hold of that sum in a sandbox is worth. -/
noncomputable def Try.pinned : Pinned := { name := "ytefnaimopkmpmaa", sum := "d6f234f82a1bcd97c0b88522b21874bee00c47c7b9dbd7113c250ecdcb88f5e8", checked := Try.checked }
namespace Rows
def none {H : Type} : Left H := { results := [], args := [] }

/-- 'laws.FnExactConstants': WHATEVER THE INPUT: true; the input reads as it did. -/
def fnExactConstantsSpec : ChangeSpec := { name := "fnExactConstants", fn := fun _ => fun
  | [] => { results := [.lit (.bool true)], args := [] }
  | _ => none }
def fnExactConstantsRow : OpenClaim := { program := "ytefnaimopkmpmaa", sum := "d6f234f82a1bcd97c0b88522b21874bee00c47c7b9dbd7113c250ecdcb88f5e8", func := "loop.example/overlappingtexts/laws.FnExactConstants", spec := "fnExactConstants", apart := false }
def FnExactConstantsSaid : Prop := fnExactConstantsRow.holds Try.pinned (OpenSpec.ofChange fnExactConstantsSpec)

/-- ITS FALSE NEIGHBOUR: 'it returns false'. Refute it at one input. -/
def fnExactConstantsWrong : ChangeSpec := { name := "fnExactConstants", fn := fun _ => fun
  | [] => { results := [.lit (.bool false)], args := [] }
  | _ => none }
def FnExactConstantsWrongFalsely : Prop := fnExactConstantsRow.holds Try.pinned (OpenSpec.ofChange fnExactConstantsWrong)

/-- 'laws.FnExactValidText': WHATEVER THE INPUT: true; the input reads as it did. -/
def fnExactValidTextSpec : ChangeSpec := { name := "fnExactValidText", fn := fun _ => fun
  | [d] => { results := [.lit (.bool true)], args := [d] }
  | _ => none }
def fnExactValidTextRow : OpenClaim := { program := "ytefnaimopkmpmaa", sum := "d6f234f82a1bcd97c0b88522b21874bee00c47c7b9dbd7113c250ecdcb88f5e8", func := "loop.example/overlappingtexts/laws.FnExactValidText", spec := "fnExactValidText", apart := false }
def FnExactValidTextSaid : Prop := fnExactValidTextRow.holds Try.pinned (OpenSpec.ofChange fnExactValidTextSpec)

/-- ITS FALSE NEIGHBOUR: 'it returns false'. Refute it at one input. -/
def fnExactValidTextWrong : ChangeSpec := { name := "fnExactValidText", fn := fun _ => fun
  | [d] => { results := [.lit (.bool false)], args := [d] }
  | _ => none }
def FnExactValidTextWrongFalsely : Prop := fnExactValidTextRow.holds Try.pinned (OpenSpec.ofChange fnExactValidTextWrong)

/-- 'laws.FnExactIsRow': WHATEVER THE INPUT: true; the input reads as it did. -/
def fnExactIsRowSpec : ChangeSpec := { name := "fnExactIsRow", fn := fun _ => fun
  | [d1, d2] => { results := [.lit (.bool true)], args := [d1, d2] }
  | _ => none }
def fnExactIsRowRow : OpenClaim := { program := "ytefnaimopkmpmaa", sum := "d6f234f82a1bcd97c0b88522b21874bee00c47c7b9dbd7113c250ecdcb88f5e8", func := "loop.example/overlappingtexts/laws.FnExactIsRow", spec := "fnExactIsRow", apart := false }
def FnExactIsRowSaid : Prop := fnExactIsRowRow.holds Try.pinned (OpenSpec.ofChange fnExactIsRowSpec)

/-- ITS FALSE NEIGHBOUR: 'it returns false'. Refute it at one input. -/
def fnExactIsRowWrong : ChangeSpec := { name := "fnExactIsRow", fn := fun _ => fun
  | [d1, d2] => { results := [.lit (.bool false)], args := [d1, d2] }
  | _ => none }
def FnExactIsRowWrongFalsely : Prop := fnExactIsRowRow.holds Try.pinned (OpenSpec.ofChange fnExactIsRowWrong)

/-- 'laws.FnExactOverlapOf': WHATEVER THE INPUT: true; the input reads as it did. -/
def fnExactOverlapOfSpec : ChangeSpec := { name := "fnExactOverlapOf", fn := fun _ => fun
  | [d1, d2] => { results := [.lit (.bool true)], args := [d1, d2] }
  | _ => none }
def fnExactOverlapOfRow : OpenClaim := { program := "ytefnaimopkmpmaa", sum := "d6f234f82a1bcd97c0b88522b21874bee00c47c7b9dbd7113c250ecdcb88f5e8", func := "loop.example/overlappingtexts/laws.FnExactOverlapOf", spec := "fnExactOverlapOf", apart := false }
def FnExactOverlapOfSaid : Prop := fnExactOverlapOfRow.holds Try.pinned (OpenSpec.ofChange fnExactOverlapOfSpec)

/-- ITS FALSE NEIGHBOUR: 'it returns false'. Refute it at one input. -/
def fnExactOverlapOfWrong : ChangeSpec := { name := "fnExactOverlapOf", fn := fun _ => fun
  | [d1, d2] => { results := [.lit (.bool false)], args := [d1, d2] }
  | _ => none }
def FnExactOverlapOfWrongFalsely : Prop := fnExactOverlapOfRow.holds Try.pinned (OpenSpec.ofChange fnExactOverlapOfWrong)

/-- 'laws.FnExactCommonRow': WHATEVER THE INPUT: true; the input reads as it did. -/
def fnExactCommonRowSpec : ChangeSpec := { name := "fnExactCommonRow", fn := fun _ => fun
  | [d1, d2] => { results := [.lit (.bool true)], args := [d1, d2] }
  | _ => none }
def fnExactCommonRowRow : OpenClaim := { program := "ytefnaimopkmpmaa", sum := "d6f234f82a1bcd97c0b88522b21874bee00c47c7b9dbd7113c250ecdcb88f5e8", func := "loop.example/overlappingtexts/laws.FnExactCommonRow", spec := "fnExactCommonRow", apart := false }
def FnExactCommonRowSaid : Prop := fnExactCommonRowRow.holds Try.pinned (OpenSpec.ofChange fnExactCommonRowSpec)

/-- ITS FALSE NEIGHBOUR: 'it returns false'. Refute it at one input. -/
def fnExactCommonRowWrong : ChangeSpec := { name := "fnExactCommonRow", fn := fun _ => fun
  | [d1, d2] => { results := [.lit (.bool false)], args := [d1, d2] }
  | _ => none }
def FnExactCommonRowWrongFalsely : Prop := fnExactCommonRowRow.holds Try.pinned (OpenSpec.ofChange fnExactCommonRowWrong)

/-- 'laws.FnExactPeriodsOf': WHATEVER THE INPUT: true; the input reads as it did. -/
def fnExactPeriodsOfSpec : ChangeSpec := { name := "fnExactPeriodsOf", fn := fun _ => fun
  | [d] => { results := [.lit (.bool true)], args := [d] }
  | _ => none }
def fnExactPeriodsOfRow : OpenClaim := { program := "ytefnaimopkmpmaa", sum := "d6f234f82a1bcd97c0b88522b21874bee00c47c7b9dbd7113c250ecdcb88f5e8", func := "loop.example/overlappingtexts/laws.FnExactPeriodsOf", spec := "fnExactPeriodsOf", apart := false }
def FnExactPeriodsOfSaid : Prop := fnExactPeriodsOfRow.holds Try.pinned (OpenSpec.ofChange fnExactPeriodsOfSpec)

/-- ITS FALSE NEIGHBOUR: 'it returns false'. Refute it at one input. -/
def fnExactPeriodsOfWrong : ChangeSpec := { name := "fnExactPeriodsOf", fn := fun _ => fun
  | [d] => { results := [.lit (.bool false)], args := [d] }
  | _ => none }
def FnExactPeriodsOfWrongFalsely : Prop := fnExactPeriodsOfRow.holds Try.pinned (OpenSpec.ofChange fnExactPeriodsOfWrong)

/-- 'laws.FnExactHasWord': WHATEVER THE INPUT: true; the input reads as it did. -/
def fnExactHasWordSpec : ChangeSpec := { name := "fnExactHasWord", fn := fun _ => fun
  | [d1, d2] => { results := [.lit (.bool true)], args := [d1, d2] }
  | _ => none }
def fnExactHasWordRow : OpenClaim := { program := "ytefnaimopkmpmaa", sum := "d6f234f82a1bcd97c0b88522b21874bee00c47c7b9dbd7113c250ecdcb88f5e8", func := "loop.example/overlappingtexts/laws.FnExactHasWord", spec := "fnExactHasWord", inPlace := ["internal/bytealg.IndexByteString", "internal/bytealg.IndexString"], named := ["internal/bytealg.MaxLen"], apart := false }
def FnExactHasWordSaid : Prop := fnExactHasWordRow.holds Try.pinned (OpenSpec.ofChange fnExactHasWordSpec)

/-- ITS FALSE NEIGHBOUR: 'it returns false'. Refute it at one input. -/
def fnExactHasWordWrong : ChangeSpec := { name := "fnExactHasWord", fn := fun _ => fun
  | [d1, d2] => { results := [.lit (.bool false)], args := [d1, d2] }
  | _ => none }
def FnExactHasWordWrongFalsely : Prop := fnExactHasWordRow.holds Try.pinned (OpenSpec.ofChange fnExactHasWordWrong)

/-- 'laws.FnExactPlacesOf': WHATEVER THE INPUT: true; the input reads as it did. -/
def fnExactPlacesOfSpec : ChangeSpec := { name := "fnExactPlacesOf", fn := fun _ => fun
  | [d1, d2] => { results := [.lit (.bool true)], args := [d1, d2] }
  | _ => none }
def fnExactPlacesOfRow : OpenClaim := { program := "ytefnaimopkmpmaa", sum := "d6f234f82a1bcd97c0b88522b21874bee00c47c7b9dbd7113c250ecdcb88f5e8", func := "loop.example/overlappingtexts/laws.FnExactPlacesOf", spec := "fnExactPlacesOf", apart := false }
def FnExactPlacesOfSaid : Prop := fnExactPlacesOfRow.holds Try.pinned (OpenSpec.ofChange fnExactPlacesOfSpec)

/-- ITS FALSE NEIGHBOUR: 'it returns false'. Refute it at one input. -/
def fnExactPlacesOfWrong : ChangeSpec := { name := "fnExactPlacesOf", fn := fun _ => fun
  | [d1, d2] => { results := [.lit (.bool false)], args := [d1, d2] }
  | _ => none }
def FnExactPlacesOfWrongFalsely : Prop := fnExactPlacesOfRow.holds Try.pinned (OpenSpec.ofChange fnExactPlacesOfWrong)

/-- 'laws.FnExactBordersOf': WHATEVER THE INPUT: true; the input reads as it did. -/
def fnExactBordersOfSpec : ChangeSpec := { name := "fnExactBordersOf", fn := fun _ => fun
  | [d] => { results := [.lit (.bool true)], args := [d] }
  | _ => none }
def fnExactBordersOfRow : OpenClaim := { program := "ytefnaimopkmpmaa", sum := "d6f234f82a1bcd97c0b88522b21874bee00c47c7b9dbd7113c250ecdcb88f5e8", func := "loop.example/overlappingtexts/laws.FnExactBordersOf", spec := "fnExactBordersOf", unfollowed := true, recurses := true, apart := false }
def FnExactBordersOfSaid : Prop := fnExactBordersOfRow.holds Try.pinned (OpenSpec.ofChange fnExactBordersOfSpec)

/-- ITS FALSE NEIGHBOUR: 'it returns false'. Refute it at one input. -/
def fnExactBordersOfWrong : ChangeSpec := { name := "fnExactBordersOf", fn := fun _ => fun
  | [d] => { results := [.lit (.bool false)], args := [d] }
  | _ => none }
def FnExactBordersOfWrongFalsely : Prop := fnExactBordersOfRow.holds Try.pinned (OpenSpec.ofChange fnExactBordersOfWrong)

/-- 'laws.FnExactIsCover': WHATEVER THE INPUT: true; the input reads as it did. -/
def fnExactIsCoverSpec : ChangeSpec := { name := "fnExactIsCover", fn := fun _ => fun
  | [d1, d2] => { results := [.lit (.bool true)], args := [d1, d2] }
  | _ => none }
def fnExactIsCoverRow : OpenClaim := { program := "ytefnaimopkmpmaa", sum := "d6f234f82a1bcd97c0b88522b21874bee00c47c7b9dbd7113c250ecdcb88f5e8", func := "loop.example/overlappingtexts/laws.FnExactIsCover", spec := "fnExactIsCover", apart := false }
def FnExactIsCoverSaid : Prop := fnExactIsCoverRow.holds Try.pinned (OpenSpec.ofChange fnExactIsCoverSpec)

/-- ITS FALSE NEIGHBOUR: 'it returns false'. Refute it at one input. -/
def fnExactIsCoverWrong : ChangeSpec := { name := "fnExactIsCover", fn := fun _ => fun
  | [d1, d2] => { results := [.lit (.bool false)], args := [d1, d2] }
  | _ => none }
def FnExactIsCoverWrongFalsely : Prop := fnExactIsCoverRow.holds Try.pinned (OpenSpec.ofChange fnExactIsCoverWrong)

/-- 'laws.FnExactCoversOf': WHATEVER THE INPUT: true; the input reads as it did. -/
def fnExactCoversOfSpec : ChangeSpec := { name := "fnExactCoversOf", fn := fun _ => fun
  | [d] => { results := [.lit (.bool true)], args := [d] }
  | _ => none }
def fnExactCoversOfRow : OpenClaim := { program := "ytefnaimopkmpmaa", sum := "d6f234f82a1bcd97c0b88522b21874bee00c47c7b9dbd7113c250ecdcb88f5e8", func := "loop.example/overlappingtexts/laws.FnExactCoversOf", spec := "fnExactCoversOf", apart := false }
def FnExactCoversOfSaid : Prop := fnExactCoversOfRow.holds Try.pinned (OpenSpec.ofChange fnExactCoversOfSpec)

/-- ITS FALSE NEIGHBOUR: 'it returns false'. Refute it at one input. -/
def fnExactCoversOfWrong : ChangeSpec := { name := "fnExactCoversOf", fn := fun _ => fun
  | [d] => { results := [.lit (.bool false)], args := [d] }
  | _ => none }
def FnExactCoversOfWrongFalsely : Prop := fnExactCoversOfRow.holds Try.pinned (OpenSpec.ofChange fnExactCoversOfWrong)

/-- 'laws.FnExactOnceFrom': WHATEVER THE INPUT: true; the input reads as it did. -/
def fnExactOnceFromSpec : ChangeSpec := { name := "fnExactOnceFrom", fn := fun _ => fun
  | [d1, d2] => { results := [.lit (.bool true)], args := [d1, d2] }
  | _ => none }
def fnExactOnceFromRow : OpenClaim := { program := "ytefnaimopkmpmaa", sum := "d6f234f82a1bcd97c0b88522b21874bee00c47c7b9dbd7113c250ecdcb88f5e8", func := "loop.example/overlappingtexts/laws.FnExactOnceFrom", spec := "fnExactOnceFrom", apart := false }
def FnExactOnceFromSaid : Prop := fnExactOnceFromRow.holds Try.pinned (OpenSpec.ofChange fnExactOnceFromSpec)

/-- ITS FALSE NEIGHBOUR: 'it returns false'. Refute it at one input. -/
def fnExactOnceFromWrong : ChangeSpec := { name := "fnExactOnceFrom", fn := fun _ => fun
  | [d1, d2] => { results := [.lit (.bool false)], args := [d1, d2] }
  | _ => none }
def FnExactOnceFromWrongFalsely : Prop := fnExactOnceFromRow.holds Try.pinned (OpenSpec.ofChange fnExactOnceFromWrong)

/- THE SECOND FORM. 'bulk': how many values and letters a reading holds, each counted each time it is reached (what is shared counts as often as it is met; a slice's spare places count too). A statement '..UptoSaid' is the law's where the arguments, and the package variables that the reading takes, are together of bulk at most 1048576: NARROWER than '..Said'. Prove '..Said' where nothing that the law and all that it calls make is longer than what came in: it says more and counts as full. Else prove '..UptoSaid'. A law counts once. -/
mutual
def uptoBulk {H : Type} : DataW H → Nat
  | .lit (.string bytes) => bytes.length + 1
  | .lit _ => 1
  | .nil => 1
  | .ptr d => uptoBulk d + 1
  | .slice elems spare => uptoBulkAll elems + uptoBulkAll spare + 1
  | .agg parts => uptoBulkAll parts + 1
  | .iface _ d => uptoBulk d + 1
  | .map entries => uptoBulkEntries entries + 1
  | .held _ => 1
def uptoBulkAll {H : Type} : List (DataW H) → Nat
  | [] => 0
  | d :: r => uptoBulk d + uptoBulkAll r
def uptoBulkEntries {H : Type} : List (Lit × DataW H) → Nat
  | [] => 0
  | x :: r => uptoBulkEntry x + uptoBulkEntries r
def uptoBulkEntry {H : Type} : Lit × DataW H → Nat
  | (.string bytes, d) => bytes.length + uptoBulk d + 1
  | (_, d) => uptoBulk d + 1
 end
def uptoSmall : (H : Type) → List (DataW H) → Bool := fun _ ds => decide (uptoBulkAll ds ≤ 1048576)
def OpenSpec.upto (s : _root_.Go.ChangeSpec) : _root_.Go.OpenSpec := { _root_.Go.OpenSpec.ofChange s with cond := some uptoSmall }

/-- 'laws.FnExactConstants', WHERE WHAT IT READS IS OF BULK AT MOST 1048576: true; the input reads as it did. -/
def fnExactConstantsUptoRow : OpenClaim := { program := "ytefnaimopkmpmaa", sum := "d6f234f82a1bcd97c0b88522b21874bee00c47c7b9dbd7113c250ecdcb88f5e8", func := "loop.example/overlappingtexts/laws.FnExactConstants", spec := "fnExactConstants", apart := false, narrowed := true }
def FnExactConstantsUptoSaid : Prop := fnExactConstantsUptoRow.holds Try.pinned (OpenSpec.upto fnExactConstantsSpec)

/-- 'laws.FnExactValidText', WHERE WHAT IT READS IS OF BULK AT MOST 1048576: true; the input reads as it did. -/
def fnExactValidTextUptoRow : OpenClaim := { program := "ytefnaimopkmpmaa", sum := "d6f234f82a1bcd97c0b88522b21874bee00c47c7b9dbd7113c250ecdcb88f5e8", func := "loop.example/overlappingtexts/laws.FnExactValidText", spec := "fnExactValidText", apart := false, narrowed := true }
def FnExactValidTextUptoSaid : Prop := fnExactValidTextUptoRow.holds Try.pinned (OpenSpec.upto fnExactValidTextSpec)

/-- 'laws.FnExactIsRow', WHERE WHAT IT READS IS OF BULK AT MOST 1048576: true; the input reads as it did. -/
def fnExactIsRowUptoRow : OpenClaim := { program := "ytefnaimopkmpmaa", sum := "d6f234f82a1bcd97c0b88522b21874bee00c47c7b9dbd7113c250ecdcb88f5e8", func := "loop.example/overlappingtexts/laws.FnExactIsRow", spec := "fnExactIsRow", apart := false, narrowed := true }
def FnExactIsRowUptoSaid : Prop := fnExactIsRowUptoRow.holds Try.pinned (OpenSpec.upto fnExactIsRowSpec)

/-- 'laws.FnExactOverlapOf', WHERE WHAT IT READS IS OF BULK AT MOST 1048576: true; the input reads as it did. -/
def fnExactOverlapOfUptoRow : OpenClaim := { program := "ytefnaimopkmpmaa", sum := "d6f234f82a1bcd97c0b88522b21874bee00c47c7b9dbd7113c250ecdcb88f5e8", func := "loop.example/overlappingtexts/laws.FnExactOverlapOf", spec := "fnExactOverlapOf", apart := false, narrowed := true }
def FnExactOverlapOfUptoSaid : Prop := fnExactOverlapOfUptoRow.holds Try.pinned (OpenSpec.upto fnExactOverlapOfSpec)

/-- 'laws.FnExactCommonRow', WHERE WHAT IT READS IS OF BULK AT MOST 1048576: true; the input reads as it did. -/
def fnExactCommonRowUptoRow : OpenClaim := { program := "ytefnaimopkmpmaa", sum := "d6f234f82a1bcd97c0b88522b21874bee00c47c7b9dbd7113c250ecdcb88f5e8", func := "loop.example/overlappingtexts/laws.FnExactCommonRow", spec := "fnExactCommonRow", apart := false, narrowed := true }
def FnExactCommonRowUptoSaid : Prop := fnExactCommonRowUptoRow.holds Try.pinned (OpenSpec.upto fnExactCommonRowSpec)

/-- 'laws.FnExactPeriodsOf', WHERE WHAT IT READS IS OF BULK AT MOST 1048576: true; the input reads as it did. -/
def fnExactPeriodsOfUptoRow : OpenClaim := { program := "ytefnaimopkmpmaa", sum := "d6f234f82a1bcd97c0b88522b21874bee00c47c7b9dbd7113c250ecdcb88f5e8", func := "loop.example/overlappingtexts/laws.FnExactPeriodsOf", spec := "fnExactPeriodsOf", apart := false, narrowed := true }
def FnExactPeriodsOfUptoSaid : Prop := fnExactPeriodsOfUptoRow.holds Try.pinned (OpenSpec.upto fnExactPeriodsOfSpec)

/-- 'laws.FnExactHasWord', WHERE WHAT IT READS IS OF BULK AT MOST 1048576: true; the input reads as it did. -/
def fnExactHasWordUptoRow : OpenClaim := { program := "ytefnaimopkmpmaa", sum := "d6f234f82a1bcd97c0b88522b21874bee00c47c7b9dbd7113c250ecdcb88f5e8", func := "loop.example/overlappingtexts/laws.FnExactHasWord", spec := "fnExactHasWord", inPlace := ["internal/bytealg.IndexByteString", "internal/bytealg.IndexString"], named := ["internal/bytealg.MaxLen"], apart := false, narrowed := true }
def FnExactHasWordUptoSaid : Prop := fnExactHasWordUptoRow.holds Try.pinned (OpenSpec.upto fnExactHasWordSpec)

/-- 'laws.FnExactPlacesOf', WHERE WHAT IT READS IS OF BULK AT MOST 1048576: true; the input reads as it did. -/
def fnExactPlacesOfUptoRow : OpenClaim := { program := "ytefnaimopkmpmaa", sum := "d6f234f82a1bcd97c0b88522b21874bee00c47c7b9dbd7113c250ecdcb88f5e8", func := "loop.example/overlappingtexts/laws.FnExactPlacesOf", spec := "fnExactPlacesOf", apart := false, narrowed := true }
def FnExactPlacesOfUptoSaid : Prop := fnExactPlacesOfUptoRow.holds Try.pinned (OpenSpec.upto fnExactPlacesOfSpec)

/-- 'laws.FnExactBordersOf', WHERE WHAT IT READS IS OF BULK AT MOST 1048576: true; the input reads as it did. -/
def fnExactBordersOfUptoRow : OpenClaim := { program := "ytefnaimopkmpmaa", sum := "d6f234f82a1bcd97c0b88522b21874bee00c47c7b9dbd7113c250ecdcb88f5e8", func := "loop.example/overlappingtexts/laws.FnExactBordersOf", spec := "fnExactBordersOf", unfollowed := true, recurses := true, apart := false, narrowed := true }
def FnExactBordersOfUptoSaid : Prop := fnExactBordersOfUptoRow.holds Try.pinned (OpenSpec.upto fnExactBordersOfSpec)

/-- 'laws.FnExactIsCover', WHERE WHAT IT READS IS OF BULK AT MOST 1048576: true; the input reads as it did. -/
def fnExactIsCoverUptoRow : OpenClaim := { program := "ytefnaimopkmpmaa", sum := "d6f234f82a1bcd97c0b88522b21874bee00c47c7b9dbd7113c250ecdcb88f5e8", func := "loop.example/overlappingtexts/laws.FnExactIsCover", spec := "fnExactIsCover", apart := false, narrowed := true }
def FnExactIsCoverUptoSaid : Prop := fnExactIsCoverUptoRow.holds Try.pinned (OpenSpec.upto fnExactIsCoverSpec)

/-- 'laws.FnExactCoversOf', WHERE WHAT IT READS IS OF BULK AT MOST 1048576: true; the input reads as it did. -/
def fnExactCoversOfUptoRow : OpenClaim := { program := "ytefnaimopkmpmaa", sum := "d6f234f82a1bcd97c0b88522b21874bee00c47c7b9dbd7113c250ecdcb88f5e8", func := "loop.example/overlappingtexts/laws.FnExactCoversOf", spec := "fnExactCoversOf", apart := false, narrowed := true }
def FnExactCoversOfUptoSaid : Prop := fnExactCoversOfUptoRow.holds Try.pinned (OpenSpec.upto fnExactCoversOfSpec)

/-- 'laws.FnExactOnceFrom', WHERE WHAT IT READS IS OF BULK AT MOST 1048576: true; the input reads as it did. -/
def fnExactOnceFromUptoRow : OpenClaim := { program := "ytefnaimopkmpmaa", sum := "d6f234f82a1bcd97c0b88522b21874bee00c47c7b9dbd7113c250ecdcb88f5e8", func := "loop.example/overlappingtexts/laws.FnExactOnceFrom", spec := "fnExactOnceFrom", apart := false, narrowed := true }
def FnExactOnceFromUptoSaid : Prop := fnExactOnceFromUptoRow.holds Try.pinned (OpenSpec.upto fnExactOnceFromSpec)

end Rows
end Go.Proofs.Ytefnaimopkmpmaa
