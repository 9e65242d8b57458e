/-
  No cell of these rows narrows 'for every input' (looked for: loops, veiled, ifaces, maps, wideKeys, modest, calm, conditions, laid).
  DERIVED. THE GIVEN ROWS OF THIS SEAT. 11 by the template 'for every input the law returns true; each argument reads behind the call as it read before'; 0 by the template 'total and deterministic' (their statements: YtkgdifngijeenaaTotals.lean).
  GIVEN WITH THE SEED: the statements are not yours to turn. If you find one false, say at which input.
  Laid BY PROGRAM, IN A SANDBOX (cutbox-rows.mjs): the forced cells as the released guide's own fill.sh prints them over the translation f6079cbb1e040f16… (all of the seat's roots in one cut). By AI agents, Wed Nov 11 2026. No macro, syntax, notation, axiom, sorry.
-/
import Derived.Test.YtkgdifngijeenaaChecked
import GoSem.Claim
import GoSem.ClaimJoined
import GoSem.ClaimMapViews
import Derived.JoinedTies
import Derived.KernelRfl
namespace Go.Proofs.Ytkgdifngijeenaa
/- THE CELL 'sum', in the pinned program and in every row, IS THE sha256 OF THE DUMP (.gsa) THAT YtkgdifngijeenaaProg.lean LOADS. Nothing in Lean hashes anything: it is a label: what it is worth is what the hold of that sum in a sandbox is worth. -/
noncomputable def Try.pinned : Pinned := { name := "ytkgdifngijeenaa", sum := "f6079cbb1e040f16b583e5e0bc6f44d5daf6a3aaafc3df74a28afda9d2318a1f", checked := Try.checked }
namespace Rows
def none {H : Type} : Left H := { results := [], args := [] }

/-- 'laws.FnExactValidPoints': WHATEVER THE INPUT: true; the input reads as it did. -/
def fnExactValidPointsSpec : ChangeSpec := { name := "fnExactValidPoints", fn := fun _ => fun
  | [d] => { results := [.lit (.bool true)], args := [d] }
  | _ => none }
def fnExactValidPointsRow : OpenClaim := { program := "ytkgdifngijeenaa", sum := "f6079cbb1e040f16b583e5e0bc6f44d5daf6a3aaafc3df74a28afda9d2318a1f", func := "loop.example/overlappingtexts/laws.FnExactValidPoints", spec := "fnExactValidPoints", apart := false }
def FnExactValidPointsSaid : Prop := fnExactValidPointsRow.holds Try.pinned (OpenSpec.ofChange fnExactValidPointsSpec)

/-- ITS FALSE NEIGHBOUR: 'it returns false'. Refute it at one input. -/
def fnExactValidPointsWrong : ChangeSpec := { name := "fnExactValidPoints", fn := fun _ => fun
  | [d] => { results := [.lit (.bool false)], args := [d] }
  | _ => none }
def FnExactValidPointsWrongFalsely : Prop := fnExactValidPointsRow.holds Try.pinned (OpenSpec.ofChange fnExactValidPointsWrong)

/-- 'laws.FnValidPoints': WHATEVER THE INPUT: true; the input reads as it did. -/
def fnValidPointsSpec : ChangeSpec := { name := "fnValidPoints", fn := fun _ => fun
  | [d] => { results := [.lit (.bool true)], args := [d] }
  | _ => none }
def fnValidPointsRow : OpenClaim := { program := "ytkgdifngijeenaa", sum := "f6079cbb1e040f16b583e5e0bc6f44d5daf6a3aaafc3df74a28afda9d2318a1f", func := "loop.example/overlappingtexts/laws.FnValidPoints", spec := "fnValidPoints", apart := false }
def FnValidPointsSaid : Prop := fnValidPointsRow.holds Try.pinned (OpenSpec.ofChange fnValidPointsSpec)

/-- ITS FALSE NEIGHBOUR: 'it returns false'. Refute it at one input. -/
def fnValidPointsWrong : ChangeSpec := { name := "fnValidPoints", fn := fun _ => fun
  | [d] => { results := [.lit (.bool false)], args := [d] }
  | _ => none }
def FnValidPointsWrongFalsely : Prop := fnValidPointsRow.holds Try.pinned (OpenSpec.ofChange fnValidPointsWrong)

/-- 'laws.FnExactTurnPoints': WHATEVER THE INPUT: true; the input reads as it did. -/
def fnExactTurnPointsSpec : ChangeSpec := { name := "fnExactTurnPoints", fn := fun _ => fun
  | [d] => { results := [.lit (.bool true)], args := [d] }
  | _ => none }
def fnExactTurnPointsRow : OpenClaim := { program := "ytkgdifngijeenaa", sum := "f6079cbb1e040f16b583e5e0bc6f44d5daf6a3aaafc3df74a28afda9d2318a1f", func := "loop.example/overlappingtexts/laws.FnExactTurnPoints", spec := "fnExactTurnPoints", unfollowed := true, recurses := true, apart := false }
def FnExactTurnPointsSaid : Prop := fnExactTurnPointsRow.holds Try.pinned (OpenSpec.ofChange fnExactTurnPointsSpec)

/-- ITS FALSE NEIGHBOUR: 'it returns false'. Refute it at one input. -/
def fnExactTurnPointsWrong : ChangeSpec := { name := "fnExactTurnPoints", fn := fun _ => fun
  | [d] => { results := [.lit (.bool false)], args := [d] }
  | _ => none }
def FnExactTurnPointsWrongFalsely : Prop := fnExactTurnPointsRow.holds Try.pinned (OpenSpec.ofChange fnExactTurnPointsWrong)

/-- 'laws.FnTurnPoints': WHATEVER THE INPUT: true; the input reads as it did. -/
def fnTurnPointsSpec : ChangeSpec := { name := "fnTurnPoints", fn := fun _ => fun
  | [d] => { results := [.lit (.bool true)], args := [d] }
  | _ => none }
def fnTurnPointsRow : OpenClaim := { program := "ytkgdifngijeenaa", sum := "f6079cbb1e040f16b583e5e0bc6f44d5daf6a3aaafc3df74a28afda9d2318a1f", func := "loop.example/overlappingtexts/laws.FnTurnPoints", spec := "fnTurnPoints", unfollowed := true, recurses := true, apart := false }
def FnTurnPointsSaid : Prop := fnTurnPointsRow.holds Try.pinned (OpenSpec.ofChange fnTurnPointsSpec)

/-- ITS FALSE NEIGHBOUR: 'it returns false'. Refute it at one input. -/
def fnTurnPointsWrong : ChangeSpec := { name := "fnTurnPoints", fn := fun _ => fun
  | [d] => { results := [.lit (.bool false)], args := [d] }
  | _ => none }
def FnTurnPointsWrongFalsely : Prop := fnTurnPointsRow.holds Try.pinned (OpenSpec.ofChange fnTurnPointsWrong)

/-- 'laws.FnExactFewestPhrases': WHATEVER THE INPUT: true; the input reads as it did. -/
def fnExactFewestPhrasesSpec : ChangeSpec := { name := "fnExactFewestPhrases", fn := fun _ => fun
  | [d] => { results := [.lit (.bool true)], args := [d] }
  | _ => none }
def fnExactFewestPhrasesRow : OpenClaim := { program := "ytkgdifngijeenaa", sum := "f6079cbb1e040f16b583e5e0bc6f44d5daf6a3aaafc3df74a28afda9d2318a1f", func := "loop.example/overlappingtexts/laws.FnExactFewestPhrases", spec := "fnExactFewestPhrases", apart := false }
def FnExactFewestPhrasesSaid : Prop := fnExactFewestPhrasesRow.holds Try.pinned (OpenSpec.ofChange fnExactFewestPhrasesSpec)

/-- ITS FALSE NEIGHBOUR: 'it returns false'. Refute it at one input. -/
def fnExactFewestPhrasesWrong : ChangeSpec := { name := "fnExactFewestPhrases", fn := fun _ => fun
  | [d] => { results := [.lit (.bool false)], args := [d] }
  | _ => none }
def FnExactFewestPhrasesWrongFalsely : Prop := fnExactFewestPhrasesRow.holds Try.pinned (OpenSpec.ofChange fnExactFewestPhrasesWrong)

/-- 'laws.FnFewestPhrases': WHATEVER THE INPUT: true; the input reads as it did. -/
def fnFewestPhrasesSpec : ChangeSpec := { name := "fnFewestPhrases", fn := fun _ => fun
  | [d] => { results := [.lit (.bool true)], args := [d] }
  | _ => none }
def fnFewestPhrasesRow : OpenClaim := { program := "ytkgdifngijeenaa", sum := "f6079cbb1e040f16b583e5e0bc6f44d5daf6a3aaafc3df74a28afda9d2318a1f", func := "loop.example/overlappingtexts/laws.FnFewestPhrases", spec := "fnFewestPhrases", apart := false }
def FnFewestPhrasesSaid : Prop := fnFewestPhrasesRow.holds Try.pinned (OpenSpec.ofChange fnFewestPhrasesSpec)

/-- ITS FALSE NEIGHBOUR: 'it returns false'. Refute it at one input. -/
def fnFewestPhrasesWrong : ChangeSpec := { name := "fnFewestPhrases", fn := fun _ => fun
  | [d] => { results := [.lit (.bool false)], args := [d] }
  | _ => none }
def FnFewestPhrasesWrongFalsely : Prop := fnFewestPhrasesRow.holds Try.pinned (OpenSpec.ofChange fnFewestPhrasesWrong)

/-- 'laws.FnExactPhrasesOf': WHATEVER THE INPUT: true; the input reads as it did. -/
def fnExactPhrasesOfSpec : ChangeSpec := { name := "fnExactPhrasesOf", fn := fun _ => fun
  | [d] => { results := [.lit (.bool true)], args := [d] }
  | _ => none }
def fnExactPhrasesOfRow : OpenClaim := { program := "ytkgdifngijeenaa", sum := "f6079cbb1e040f16b583e5e0bc6f44d5daf6a3aaafc3df74a28afda9d2318a1f", func := "loop.example/overlappingtexts/laws.FnExactPhrasesOf", spec := "fnExactPhrasesOf", apart := false }
def FnExactPhrasesOfSaid : Prop := fnExactPhrasesOfRow.holds Try.pinned (OpenSpec.ofChange fnExactPhrasesOfSpec)

/-- ITS FALSE NEIGHBOUR: 'it returns false'. Refute it at one input. -/
def fnExactPhrasesOfWrong : ChangeSpec := { name := "fnExactPhrasesOf", fn := fun _ => fun
  | [d] => { results := [.lit (.bool false)], args := [d] }
  | _ => none }
def FnExactPhrasesOfWrongFalsely : Prop := fnExactPhrasesOfRow.holds Try.pinned (OpenSpec.ofChange fnExactPhrasesOfWrong)

/-- 'laws.FnExactUnpairText': WHATEVER THE INPUT: true; the input reads as it did. -/
def fnExactUnpairTextSpec : ChangeSpec := { name := "fnExactUnpairText", fn := fun _ => fun
  | [d] => { results := [.lit (.bool true)], args := [d] }
  | _ => none }
def fnExactUnpairTextRow : OpenClaim := { program := "ytkgdifngijeenaa", sum := "f6079cbb1e040f16b583e5e0bc6f44d5daf6a3aaafc3df74a28afda9d2318a1f", func := "loop.example/overlappingtexts/laws.FnExactUnpairText", spec := "fnExactUnpairText", apart := false }
def FnExactUnpairTextSaid : Prop := fnExactUnpairTextRow.holds Try.pinned (OpenSpec.ofChange fnExactUnpairTextSpec)

/-- ITS FALSE NEIGHBOUR: 'it returns false'. Refute it at one input. -/
def fnExactUnpairTextWrong : ChangeSpec := { name := "fnExactUnpairText", fn := fun _ => fun
  | [d] => { results := [.lit (.bool false)], args := [d] }
  | _ => none }
def FnExactUnpairTextWrongFalsely : Prop := fnExactUnpairTextRow.holds Try.pinned (OpenSpec.ofChange fnExactUnpairTextWrong)

/-- 'laws.FnExactPairsOf': WHATEVER THE INPUT: true; the input reads as it did. -/
def fnExactPairsOfSpec : ChangeSpec := { name := "fnExactPairsOf", fn := fun _ => fun
  | [d] => { results := [.lit (.bool true)], args := [d] }
  | _ => none }
def fnExactPairsOfRow : OpenClaim := { program := "ytkgdifngijeenaa", sum := "f6079cbb1e040f16b583e5e0bc6f44d5daf6a3aaafc3df74a28afda9d2318a1f", func := "loop.example/overlappingtexts/laws.FnExactPairsOf", spec := "fnExactPairsOf", apart := false }
def FnExactPairsOfSaid : Prop := fnExactPairsOfRow.holds Try.pinned (OpenSpec.ofChange fnExactPairsOfSpec)

/-- ITS FALSE NEIGHBOUR: 'it returns false'. Refute it at one input. -/
def fnExactPairsOfWrong : ChangeSpec := { name := "fnExactPairsOf", fn := fun _ => fun
  | [d] => { results := [.lit (.bool false)], args := [d] }
  | _ => none }
def FnExactPairsOfWrongFalsely : Prop := fnExactPairsOfRow.holds Try.pinned (OpenSpec.ofChange fnExactPairsOfWrong)

/-- 'laws.FnPairsOf': WHATEVER THE INPUT: true; the input reads as it did. -/
def fnPairsOfSpec : ChangeSpec := { name := "fnPairsOf", fn := fun _ => fun
  | [d] => { results := [.lit (.bool true)], args := [d] }
  | _ => none }
def fnPairsOfRow : OpenClaim := { program := "ytkgdifngijeenaa", sum := "f6079cbb1e040f16b583e5e0bc6f44d5daf6a3aaafc3df74a28afda9d2318a1f", func := "loop.example/overlappingtexts/laws.FnPairsOf", spec := "fnPairsOf", apart := false }
def FnPairsOfSaid : Prop := fnPairsOfRow.holds Try.pinned (OpenSpec.ofChange fnPairsOfSpec)

/-- ITS FALSE NEIGHBOUR: 'it returns false'. Refute it at one input. -/
def fnPairsOfWrong : ChangeSpec := { name := "fnPairsOf", fn := fun _ => fun
  | [d] => { results := [.lit (.bool false)], args := [d] }
  | _ => none }
def FnPairsOfWrongFalsely : Prop := fnPairsOfRow.holds Try.pinned (OpenSpec.ofChange fnPairsOfWrong)

/-- 'laws.FnUnpairText': WHATEVER THE INPUT: true; the input reads as it did. -/
def fnUnpairTextSpec : ChangeSpec := { name := "fnUnpairText", fn := fun _ => fun
  | [d] => { results := [.lit (.bool true)], args := [d] }
  | _ => none }
def fnUnpairTextRow : OpenClaim := { program := "ytkgdifngijeenaa", sum := "f6079cbb1e040f16b583e5e0bc6f44d5daf6a3aaafc3df74a28afda9d2318a1f", func := "loop.example/overlappingtexts/laws.FnUnpairText", spec := "fnUnpairText", apart := false }
def FnUnpairTextSaid : Prop := fnUnpairTextRow.holds Try.pinned (OpenSpec.ofChange fnUnpairTextSpec)

/-- ITS FALSE NEIGHBOUR: 'it returns false'. Refute it at one input. -/
def fnUnpairTextWrong : ChangeSpec := { name := "fnUnpairText", fn := fun _ => fun
  | [d] => { results := [.lit (.bool false)], args := [d] }
  | _ => none }
def FnUnpairTextWrongFalsely : Prop := fnUnpairTextRow.holds Try.pinned (OpenSpec.ofChange fnUnpairTextWrong)

/- THE SECOND FORM. 'bulk': how many values and letters a reading holds, each counted each time it is reached (what is shared counts as often as it is met; a slice's spare places count too). A statement '..UptoSaid' is the law's where the arguments, and the package variables that the reading takes, are together of bulk at most 1048576: NARROWER than '..Said'. Prove '..Said' where nothing that the law and all that it calls make is longer than what came in: it says more and counts as full. Else prove '..UptoSaid'. A law counts once. -/
mutual
def uptoBulk {H : Type} : DataW H → Nat
  | .lit (.string bytes) => bytes.length + 1
  | .lit _ => 1
  | .nil => 1
  | .ptr d => uptoBulk d + 1
  | .slice elems spare => uptoBulkAll elems + uptoBulkAll spare + 1
  | .agg parts => uptoBulkAll parts + 1
  | .iface _ d => uptoBulk d + 1
  | .map entries => uptoBulkEntries entries + 1
  | .held _ => 1
def uptoBulkAll {H : Type} : List (DataW H) → Nat
  | [] => 0
  | d :: r => uptoBulk d + uptoBulkAll r
def uptoBulkEntries {H : Type} : List (Lit × DataW H) → Nat
  | [] => 0
  | x :: r => uptoBulkEntry x + uptoBulkEntries r
def uptoBulkEntry {H : Type} : Lit × DataW H → Nat
  | (.string bytes, d) => bytes.length + uptoBulk d + 1
  | (_, d) => uptoBulk d + 1
 end
def uptoSmall : (H : Type) → List (DataW H) → Bool := fun _ ds => decide (uptoBulkAll ds ≤ 1048576)
def OpenSpec.upto (s : _root_.Go.ChangeSpec) : _root_.Go.OpenSpec := { _root_.Go.OpenSpec.ofChange s with cond := some uptoSmall }

/-- 'laws.FnExactValidPoints', WHERE WHAT IT READS IS OF BULK AT MOST 1048576: true; the input reads as it did. -/
def fnExactValidPointsUptoRow : OpenClaim := { program := "ytkgdifngijeenaa", sum := "f6079cbb1e040f16b583e5e0bc6f44d5daf6a3aaafc3df74a28afda9d2318a1f", func := "loop.example/overlappingtexts/laws.FnExactValidPoints", spec := "fnExactValidPoints", apart := false, narrowed := true }
def FnExactValidPointsUptoSaid : Prop := fnExactValidPointsUptoRow.holds Try.pinned (OpenSpec.upto fnExactValidPointsSpec)

/-- 'laws.FnValidPoints', WHERE WHAT IT READS IS OF BULK AT MOST 1048576: true; the input reads as it did. -/
def fnValidPointsUptoRow : OpenClaim := { program := "ytkgdifngijeenaa", sum := "f6079cbb1e040f16b583e5e0bc6f44d5daf6a3aaafc3df74a28afda9d2318a1f", func := "loop.example/overlappingtexts/laws.FnValidPoints", spec := "fnValidPoints", apart := false, narrowed := true }
def FnValidPointsUptoSaid : Prop := fnValidPointsUptoRow.holds Try.pinned (OpenSpec.upto fnValidPointsSpec)

/-- 'laws.FnExactTurnPoints', WHERE WHAT IT READS IS OF BULK AT MOST 1048576: true; the input reads as it did. -/
def fnExactTurnPointsUptoRow : OpenClaim := { program := "ytkgdifngijeenaa", sum := "f6079cbb1e040f16b583e5e0bc6f44d5daf6a3aaafc3df74a28afda9d2318a1f", func := "loop.example/overlappingtexts/laws.FnExactTurnPoints", spec := "fnExactTurnPoints", unfollowed := true, recurses := true, apart := false, narrowed := true }
def FnExactTurnPointsUptoSaid : Prop := fnExactTurnPointsUptoRow.holds Try.pinned (OpenSpec.upto fnExactTurnPointsSpec)

/-- 'laws.FnTurnPoints', WHERE WHAT IT READS IS OF BULK AT MOST 1048576: true; the input reads as it did. -/
def fnTurnPointsUptoRow : OpenClaim := { program := "ytkgdifngijeenaa", sum := "f6079cbb1e040f16b583e5e0bc6f44d5daf6a3aaafc3df74a28afda9d2318a1f", func := "loop.example/overlappingtexts/laws.FnTurnPoints", spec := "fnTurnPoints", unfollowed := true, recurses := true, apart := false, narrowed := true }
def FnTurnPointsUptoSaid : Prop := fnTurnPointsUptoRow.holds Try.pinned (OpenSpec.upto fnTurnPointsSpec)

/-- 'laws.FnExactFewestPhrases', WHERE WHAT IT READS IS OF BULK AT MOST 1048576: true; the input reads as it did. -/
def fnExactFewestPhrasesUptoRow : OpenClaim := { program := "ytkgdifngijeenaa", sum := "f6079cbb1e040f16b583e5e0bc6f44d5daf6a3aaafc3df74a28afda9d2318a1f", func := "loop.example/overlappingtexts/laws.FnExactFewestPhrases", spec := "fnExactFewestPhrases", apart := false, narrowed := true }
def FnExactFewestPhrasesUptoSaid : Prop := fnExactFewestPhrasesUptoRow.holds Try.pinned (OpenSpec.upto fnExactFewestPhrasesSpec)

/-- 'laws.FnFewestPhrases', WHERE WHAT IT READS IS OF BULK AT MOST 1048576: true; the input reads as it did. -/
def fnFewestPhrasesUptoRow : OpenClaim := { program := "ytkgdifngijeenaa", sum := "f6079cbb1e040f16b583e5e0bc6f44d5daf6a3aaafc3df74a28afda9d2318a1f", func := "loop.example/overlappingtexts/laws.FnFewestPhrases", spec := "fnFewestPhrases", apart := false, narrowed := true }
def FnFewestPhrasesUptoSaid : Prop := fnFewestPhrasesUptoRow.holds Try.pinned (OpenSpec.upto fnFewestPhrasesSpec)

/-- 'laws.FnExactPhrasesOf', WHERE WHAT IT READS IS OF BULK AT MOST 1048576: true; the input reads as it did. -/
def fnExactPhrasesOfUptoRow : OpenClaim := { program := "ytkgdifngijeenaa", sum := "f6079cbb1e040f16b583e5e0bc6f44d5daf6a3aaafc3df74a28afda9d2318a1f", func := "loop.example/overlappingtexts/laws.FnExactPhrasesOf", spec := "fnExactPhrasesOf", apart := false, narrowed := true }
def FnExactPhrasesOfUptoSaid : Prop := fnExactPhrasesOfUptoRow.holds Try.pinned (OpenSpec.upto fnExactPhrasesOfSpec)

/-- 'laws.FnExactUnpairText', WHERE WHAT IT READS IS OF BULK AT MOST 1048576: true; the input reads as it did. -/
def fnExactUnpairTextUptoRow : OpenClaim := { program := "ytkgdifngijeenaa", sum := "f6079cbb1e040f16b583e5e0bc6f44d5daf6a3aaafc3df74a28afda9d2318a1f", func := "loop.example/overlappingtexts/laws.FnExactUnpairText", spec := "fnExactUnpairText", apart := false, narrowed := true }
def FnExactUnpairTextUptoSaid : Prop := fnExactUnpairTextUptoRow.holds Try.pinned (OpenSpec.upto fnExactUnpairTextSpec)

/-- 'laws.FnExactPairsOf', WHERE WHAT IT READS IS OF BULK AT MOST 1048576: true; the input reads as it did. -/
def fnExactPairsOfUptoRow : OpenClaim := { program := "ytkgdifngijeenaa", sum := "f6079cbb1e040f16b583e5e0bc6f44d5daf6a3aaafc3df74a28afda9d2318a1f", func := "loop.example/overlappingtexts/laws.FnExactPairsOf", spec := "fnExactPairsOf", apart := false, narrowed := true }
def FnExactPairsOfUptoSaid : Prop := fnExactPairsOfUptoRow.holds Try.pinned (OpenSpec.upto fnExactPairsOfSpec)

/-- 'laws.FnPairsOf', WHERE WHAT IT READS IS OF BULK AT MOST 1048576: true; the input reads as it did. -/
def fnPairsOfUptoRow : OpenClaim := { program := "ytkgdifngijeenaa", sum := "f6079cbb1e040f16b583e5e0bc6f44d5daf6a3aaafc3df74a28afda9d2318a1f", func := "loop.example/overlappingtexts/laws.FnPairsOf", spec := "fnPairsOf", apart := false, narrowed := true }
def FnPairsOfUptoSaid : Prop := fnPairsOfUptoRow.holds Try.pinned (OpenSpec.upto fnPairsOfSpec)

/-- 'laws.FnUnpairText', WHERE WHAT IT READS IS OF BULK AT MOST 1048576: true; the input reads as it did. -/
def fnUnpairTextUptoRow : OpenClaim := { program := "ytkgdifngijeenaa", sum := "f6079cbb1e040f16b583e5e0bc6f44d5daf6a3aaafc3df74a28afda9d2318a1f", func := "loop.example/overlappingtexts/laws.FnUnpairText", spec := "fnUnpairText", apart := false, narrowed := true }
def FnUnpairTextUptoSaid : Prop := fnUnpairTextUptoRow.holds Try.pinned (OpenSpec.upto fnUnpairTextSpec)

end Rows
end Go.Proofs.Ytkgdifngijeenaa
