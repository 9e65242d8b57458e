/-
  No cell of these rows narrows 'for every input' (looked for: loops, veiled, ifaces, maps, wideKeys, modest, calm, conditions, laid).
  DERIVED. THE GIVEN ROWS OF THIS SEAT. 12 by the template 'for every input the law returns true; each argument reads behind the call as it read before'; 0 by the template 'total and deterministic' (their statements: YtokpcdclaifkpaaTotals.lean).
  GIVEN WITH THE SEED: the statements are not yours to turn. If you find one false, say at which input.
  Laid BY PROGRAM, IN A SANDBOX (cutbox-rows.mjs): the forced cells as the released guide's own fill.sh prints them over the translation 94487352ef404475… (all of the seat's roots in one cut). By AI agents, Wed Nov 11 2026. No macro, syntax, notation, axiom, sorry.
-/
import Derived.Test.YtokpcdclaifkpaaChecked
import GoSem.Claim
import GoSem.ClaimJoined
import GoSem.ClaimMapViews
import Derived.JoinedTies
import Derived.KernelRfl
namespace Go.Proofs.Ytokpcdclaifkpaa
/- THE CELL 'sum', in the pinned program and in every row, IS THE sha256 OF THE DUMP (.gsa) THAT YtokpcdclaifkpaaProg.lean LOADS. Nothing in Lean hashes anything: it is a label: what it is worth is what the hold of that sum in a sandbox is worth. -/
noncomputable def Try.pinned : Pinned := { name := "ytokpcdclaifkpaa", sum := "94487352ef404475f4537a4a87ab365431b7aa6cecbf7a79dbde092fb7e8afe0", checked := Try.checked }
namespace Rows
def none {H : Type} : Left H := { results := [], args := [] }

/-- 'laws.FnHasWord': WHATEVER THE INPUT: true; the input reads as it did. -/
def fnHasWordSpec : ChangeSpec := { name := "fnHasWord", fn := fun _ => fun
  | [d] => { results := [.lit (.bool true)], args := [d] }
  | _ => none }
def fnHasWordRow : OpenClaim := { program := "ytokpcdclaifkpaa", sum := "94487352ef404475f4537a4a87ab365431b7aa6cecbf7a79dbde092fb7e8afe0", func := "loop.example/overlappingtexts/laws.FnHasWord", spec := "fnHasWord", inPlace := ["internal/bytealg.IndexByteString", "internal/bytealg.IndexString"], named := ["internal/bytealg.MaxLen"], apart := false }
def FnHasWordSaid : Prop := fnHasWordRow.holds Try.pinned (OpenSpec.ofChange fnHasWordSpec)

/-- ITS FALSE NEIGHBOUR: 'it returns false'. Refute it at one input. -/
def fnHasWordWrong : ChangeSpec := { name := "fnHasWord", fn := fun _ => fun
  | [d] => { results := [.lit (.bool false)], args := [d] }
  | _ => none }
def FnHasWordWrongFalsely : Prop := fnHasWordRow.holds Try.pinned (OpenSpec.ofChange fnHasWordWrong)

/-- 'laws.FnValidText': WHATEVER THE INPUT: true; the input reads as it did. -/
def fnValidTextSpec : ChangeSpec := { name := "fnValidText", fn := fun _ => fun
  | [d] => { results := [.lit (.bool true)], args := [d] }
  | _ => none }
def fnValidTextRow : OpenClaim := { program := "ytokpcdclaifkpaa", sum := "94487352ef404475f4537a4a87ab365431b7aa6cecbf7a79dbde092fb7e8afe0", func := "loop.example/overlappingtexts/laws.FnValidText", spec := "fnValidText", apart := false }
def FnValidTextSaid : Prop := fnValidTextRow.holds Try.pinned (OpenSpec.ofChange fnValidTextSpec)

/-- ITS FALSE NEIGHBOUR: 'it returns false'. Refute it at one input. -/
def fnValidTextWrong : ChangeSpec := { name := "fnValidText", fn := fun _ => fun
  | [d] => { results := [.lit (.bool false)], args := [d] }
  | _ => none }
def FnValidTextWrongFalsely : Prop := fnValidTextRow.holds Try.pinned (OpenSpec.ofChange fnValidTextWrong)

/-- 'laws.FnIsCover': WHATEVER THE INPUT: true; the input reads as it did. -/
def fnIsCoverSpec : ChangeSpec := { name := "fnIsCover", fn := fun _ => fun
  | [d] => { results := [.lit (.bool true)], args := [d] }
  | _ => none }
def fnIsCoverRow : OpenClaim := { program := "ytokpcdclaifkpaa", sum := "94487352ef404475f4537a4a87ab365431b7aa6cecbf7a79dbde092fb7e8afe0", func := "loop.example/overlappingtexts/laws.FnIsCover", spec := "fnIsCover", apart := false }
def FnIsCoverSaid : Prop := fnIsCoverRow.holds Try.pinned (OpenSpec.ofChange fnIsCoverSpec)

/-- ITS FALSE NEIGHBOUR: 'it returns false'. Refute it at one input. -/
def fnIsCoverWrong : ChangeSpec := { name := "fnIsCover", fn := fun _ => fun
  | [d] => { results := [.lit (.bool false)], args := [d] }
  | _ => none }
def FnIsCoverWrongFalsely : Prop := fnIsCoverRow.holds Try.pinned (OpenSpec.ofChange fnIsCoverWrong)

/-- 'laws.FnOverlapOf': WHATEVER THE INPUT: true; the input reads as it did. -/
def fnOverlapOfSpec : ChangeSpec := { name := "fnOverlapOf", fn := fun _ => fun
  | [d] => { results := [.lit (.bool true)], args := [d] }
  | _ => none }
def fnOverlapOfRow : OpenClaim := { program := "ytokpcdclaifkpaa", sum := "94487352ef404475f4537a4a87ab365431b7aa6cecbf7a79dbde092fb7e8afe0", func := "loop.example/overlappingtexts/laws.FnOverlapOf", spec := "fnOverlapOf", unfollowed := true, recurses := true, apart := false }
def FnOverlapOfSaid : Prop := fnOverlapOfRow.holds Try.pinned (OpenSpec.ofChange fnOverlapOfSpec)

/-- ITS FALSE NEIGHBOUR: 'it returns false'. Refute it at one input. -/
def fnOverlapOfWrong : ChangeSpec := { name := "fnOverlapOf", fn := fun _ => fun
  | [d] => { results := [.lit (.bool false)], args := [d] }
  | _ => none }
def FnOverlapOfWrongFalsely : Prop := fnOverlapOfRow.holds Try.pinned (OpenSpec.ofChange fnOverlapOfWrong)

/-- 'laws.FnPeriodsOf': WHATEVER THE INPUT: true; the input reads as it did. -/
def fnPeriodsOfSpec : ChangeSpec := { name := "fnPeriodsOf", fn := fun _ => fun
  | [d] => { results := [.lit (.bool true)], args := [d] }
  | _ => none }
def fnPeriodsOfRow : OpenClaim := { program := "ytokpcdclaifkpaa", sum := "94487352ef404475f4537a4a87ab365431b7aa6cecbf7a79dbde092fb7e8afe0", func := "loop.example/overlappingtexts/laws.FnPeriodsOf", spec := "fnPeriodsOf", apart := false }
def FnPeriodsOfSaid : Prop := fnPeriodsOfRow.holds Try.pinned (OpenSpec.ofChange fnPeriodsOfSpec)

/-- ITS FALSE NEIGHBOUR: 'it returns false'. Refute it at one input. -/
def fnPeriodsOfWrong : ChangeSpec := { name := "fnPeriodsOf", fn := fun _ => fun
  | [d] => { results := [.lit (.bool false)], args := [d] }
  | _ => none }
def FnPeriodsOfWrongFalsely : Prop := fnPeriodsOfRow.holds Try.pinned (OpenSpec.ofChange fnPeriodsOfWrong)

/-- 'laws.FnCommonRow': WHATEVER THE INPUT: true; the input reads as it did. -/
def fnCommonRowSpec : ChangeSpec := { name := "fnCommonRow", fn := fun _ => fun
  | [d] => { results := [.lit (.bool true)], args := [d] }
  | _ => none }
def fnCommonRowRow : OpenClaim := { program := "ytokpcdclaifkpaa", sum := "94487352ef404475f4537a4a87ab365431b7aa6cecbf7a79dbde092fb7e8afe0", func := "loop.example/overlappingtexts/laws.FnCommonRow", spec := "fnCommonRow", apart := false }
def FnCommonRowSaid : Prop := fnCommonRowRow.holds Try.pinned (OpenSpec.ofChange fnCommonRowSpec)

/-- ITS FALSE NEIGHBOUR: 'it returns false'. Refute it at one input. -/
def fnCommonRowWrong : ChangeSpec := { name := "fnCommonRow", fn := fun _ => fun
  | [d] => { results := [.lit (.bool false)], args := [d] }
  | _ => none }
def FnCommonRowWrongFalsely : Prop := fnCommonRowRow.holds Try.pinned (OpenSpec.ofChange fnCommonRowWrong)

/-- 'laws.FnPlacesOf': WHATEVER THE INPUT: true; the input reads as it did. -/
def fnPlacesOfSpec : ChangeSpec := { name := "fnPlacesOf", fn := fun _ => fun
  | [d] => { results := [.lit (.bool true)], args := [d] }
  | _ => none }
def fnPlacesOfRow : OpenClaim := { program := "ytokpcdclaifkpaa", sum := "94487352ef404475f4537a4a87ab365431b7aa6cecbf7a79dbde092fb7e8afe0", func := "loop.example/overlappingtexts/laws.FnPlacesOf", spec := "fnPlacesOf", apart := false }
def FnPlacesOfSaid : Prop := fnPlacesOfRow.holds Try.pinned (OpenSpec.ofChange fnPlacesOfSpec)

/-- ITS FALSE NEIGHBOUR: 'it returns false'. Refute it at one input. -/
def fnPlacesOfWrong : ChangeSpec := { name := "fnPlacesOf", fn := fun _ => fun
  | [d] => { results := [.lit (.bool false)], args := [d] }
  | _ => none }
def FnPlacesOfWrongFalsely : Prop := fnPlacesOfRow.holds Try.pinned (OpenSpec.ofChange fnPlacesOfWrong)

/-- 'laws.FnBordersOf': WHATEVER THE INPUT: true; the input reads as it did. -/
def fnBordersOfSpec : ChangeSpec := { name := "fnBordersOf", fn := fun _ => fun
  | [d] => { results := [.lit (.bool true)], args := [d] }
  | _ => none }
def fnBordersOfRow : OpenClaim := { program := "ytokpcdclaifkpaa", sum := "94487352ef404475f4537a4a87ab365431b7aa6cecbf7a79dbde092fb7e8afe0", func := "loop.example/overlappingtexts/laws.FnBordersOf", spec := "fnBordersOf", unfollowed := true, recurses := true, apart := false }
def FnBordersOfSaid : Prop := fnBordersOfRow.holds Try.pinned (OpenSpec.ofChange fnBordersOfSpec)

/-- ITS FALSE NEIGHBOUR: 'it returns false'. Refute it at one input. -/
def fnBordersOfWrong : ChangeSpec := { name := "fnBordersOf", fn := fun _ => fun
  | [d] => { results := [.lit (.bool false)], args := [d] }
  | _ => none }
def FnBordersOfWrongFalsely : Prop := fnBordersOfRow.holds Try.pinned (OpenSpec.ofChange fnBordersOfWrong)

/-- 'laws.FnCoversOf': WHATEVER THE INPUT: true; the input reads as it did. -/
def fnCoversOfSpec : ChangeSpec := { name := "fnCoversOf", fn := fun _ => fun
  | [d] => { results := [.lit (.bool true)], args := [d] }
  | _ => none }
def fnCoversOfRow : OpenClaim := { program := "ytokpcdclaifkpaa", sum := "94487352ef404475f4537a4a87ab365431b7aa6cecbf7a79dbde092fb7e8afe0", func := "loop.example/overlappingtexts/laws.FnCoversOf", spec := "fnCoversOf", apart := false }
def FnCoversOfSaid : Prop := fnCoversOfRow.holds Try.pinned (OpenSpec.ofChange fnCoversOfSpec)

/-- ITS FALSE NEIGHBOUR: 'it returns false'. Refute it at one input. -/
def fnCoversOfWrong : ChangeSpec := { name := "fnCoversOf", fn := fun _ => fun
  | [d] => { results := [.lit (.bool false)], args := [d] }
  | _ => none }
def FnCoversOfWrongFalsely : Prop := fnCoversOfRow.holds Try.pinned (OpenSpec.ofChange fnCoversOfWrong)

/-- 'laws.FnIsRow': WHATEVER THE INPUT: true; the input reads as it did. -/
def fnIsRowSpec : ChangeSpec := { name := "fnIsRow", fn := fun _ => fun
  | [d] => { results := [.lit (.bool true)], args := [d] }
  | _ => none }
def fnIsRowRow : OpenClaim := { program := "ytokpcdclaifkpaa", sum := "94487352ef404475f4537a4a87ab365431b7aa6cecbf7a79dbde092fb7e8afe0", func := "loop.example/overlappingtexts/laws.FnIsRow", spec := "fnIsRow", inPlace := ["internal/bytealg.IndexByteString", "internal/bytealg.IndexString"], named := ["internal/bytealg.MaxLen"], apart := false }
def FnIsRowSaid : Prop := fnIsRowRow.holds Try.pinned (OpenSpec.ofChange fnIsRowSpec)

/-- ITS FALSE NEIGHBOUR: 'it returns false'. Refute it at one input. -/
def fnIsRowWrong : ChangeSpec := { name := "fnIsRow", fn := fun _ => fun
  | [d] => { results := [.lit (.bool false)], args := [d] }
  | _ => none }
def FnIsRowWrongFalsely : Prop := fnIsRowRow.holds Try.pinned (OpenSpec.ofChange fnIsRowWrong)

/-- 'laws.FnMixTwo': WHATEVER THE INPUT: true; the input reads as it did. -/
def fnMixTwoSpec : ChangeSpec := { name := "fnMixTwo", fn := fun _ => fun
  | [d] => { results := [.lit (.bool true)], args := [d] }
  | _ => none }
def fnMixTwoRow : OpenClaim := { program := "ytokpcdclaifkpaa", sum := "94487352ef404475f4537a4a87ab365431b7aa6cecbf7a79dbde092fb7e8afe0", func := "loop.example/overlappingtexts/laws.FnMixTwo", spec := "fnMixTwo", inPlace := ["internal/abi.NoEscape"], apart := false }
def FnMixTwoSaid : Prop := fnMixTwoRow.holds Try.pinned (OpenSpec.ofChange fnMixTwoSpec)

/-- ITS FALSE NEIGHBOUR: 'it returns false'. Refute it at one input. -/
def fnMixTwoWrong : ChangeSpec := { name := "fnMixTwo", fn := fun _ => fun
  | [d] => { results := [.lit (.bool false)], args := [d] }
  | _ => none }
def FnMixTwoWrongFalsely : Prop := fnMixTwoRow.holds Try.pinned (OpenSpec.ofChange fnMixTwoWrong)

/-- 'laws.FnExactMixTwo': WHATEVER THE INPUT: true; the input reads as it did. -/
def fnExactMixTwoSpec : ChangeSpec := { name := "fnExactMixTwo", fn := fun _ => fun
  | [d1, d2] => { results := [.lit (.bool true)], args := [d1, d2] }
  | _ => none }
def fnExactMixTwoRow : OpenClaim := { program := "ytokpcdclaifkpaa", sum := "94487352ef404475f4537a4a87ab365431b7aa6cecbf7a79dbde092fb7e8afe0", func := "loop.example/overlappingtexts/laws.FnExactMixTwo", spec := "fnExactMixTwo", inPlace := ["internal/abi.NoEscape"], apart := false }
def FnExactMixTwoSaid : Prop := fnExactMixTwoRow.holds Try.pinned (OpenSpec.ofChange fnExactMixTwoSpec)

/-- ITS FALSE NEIGHBOUR: 'it returns false'. Refute it at one input. -/
def fnExactMixTwoWrong : ChangeSpec := { name := "fnExactMixTwo", fn := fun _ => fun
  | [d1, d2] => { results := [.lit (.bool false)], args := [d1, d2] }
  | _ => none }
def FnExactMixTwoWrongFalsely : Prop := fnExactMixTwoRow.holds Try.pinned (OpenSpec.ofChange fnExactMixTwoWrong)

/- THE SECOND FORM. 'bulk': how many values and letters a reading holds, each counted each time it is reached (what is shared counts as often as it is met; a slice's spare places count too). A statement '..UptoSaid' is the law's where the arguments, and the package variables that the reading takes, are together of bulk at most 1048576: NARROWER than '..Said'. Prove '..Said' where nothing that the law and all that it calls make is longer than what came in: it says more and counts as full. Else prove '..UptoSaid'. A law counts once. -/
mutual
def uptoBulk {H : Type} : DataW H → Nat
  | .lit (.string bytes) => bytes.length + 1
  | .lit _ => 1
  | .nil => 1
  | .ptr d => uptoBulk d + 1
  | .slice elems spare => uptoBulkAll elems + uptoBulkAll spare + 1
  | .agg parts => uptoBulkAll parts + 1
  | .iface _ d => uptoBulk d + 1
  | .map entries => uptoBulkEntries entries + 1
  | .held _ => 1
def uptoBulkAll {H : Type} : List (DataW H) → Nat
  | [] => 0
  | d :: r => uptoBulk d + uptoBulkAll r
def uptoBulkEntries {H : Type} : List (Lit × DataW H) → Nat
  | [] => 0
  | x :: r => uptoBulkEntry x + uptoBulkEntries r
def uptoBulkEntry {H : Type} : Lit × DataW H → Nat
  | (.string bytes, d) => bytes.length + uptoBulk d + 1
  | (_, d) => uptoBulk d + 1
 end
def uptoSmall : (H : Type) → List (DataW H) → Bool := fun _ ds => decide (uptoBulkAll ds ≤ 1048576)
def OpenSpec.upto (s : _root_.Go.ChangeSpec) : _root_.Go.OpenSpec := { _root_.Go.OpenSpec.ofChange s with cond := some uptoSmall }

/-- 'laws.FnHasWord', WHERE WHAT IT READS IS OF BULK AT MOST 1048576: true; the input reads as it did. -/
def fnHasWordUptoRow : OpenClaim := { program := "ytokpcdclaifkpaa", sum := "94487352ef404475f4537a4a87ab365431b7aa6cecbf7a79dbde092fb7e8afe0", func := "loop.example/overlappingtexts/laws.FnHasWord", spec := "fnHasWord", inPlace := ["internal/bytealg.IndexByteString", "internal/bytealg.IndexString"], named := ["internal/bytealg.MaxLen"], apart := false, narrowed := true }
def FnHasWordUptoSaid : Prop := fnHasWordUptoRow.holds Try.pinned (OpenSpec.upto fnHasWordSpec)

/-- 'laws.FnValidText', WHERE WHAT IT READS IS OF BULK AT MOST 1048576: true; the input reads as it did. -/
def fnValidTextUptoRow : OpenClaim := { program := "ytokpcdclaifkpaa", sum := "94487352ef404475f4537a4a87ab365431b7aa6cecbf7a79dbde092fb7e8afe0", func := "loop.example/overlappingtexts/laws.FnValidText", spec := "fnValidText", apart := false, narrowed := true }
def FnValidTextUptoSaid : Prop := fnValidTextUptoRow.holds Try.pinned (OpenSpec.upto fnValidTextSpec)

/-- 'laws.FnIsCover', WHERE WHAT IT READS IS OF BULK AT MOST 1048576: true; the input reads as it did. -/
def fnIsCoverUptoRow : OpenClaim := { program := "ytokpcdclaifkpaa", sum := "94487352ef404475f4537a4a87ab365431b7aa6cecbf7a79dbde092fb7e8afe0", func := "loop.example/overlappingtexts/laws.FnIsCover", spec := "fnIsCover", apart := false, narrowed := true }
def FnIsCoverUptoSaid : Prop := fnIsCoverUptoRow.holds Try.pinned (OpenSpec.upto fnIsCoverSpec)

/-- 'laws.FnOverlapOf', WHERE WHAT IT READS IS OF BULK AT MOST 1048576: true; the input reads as it did. -/
def fnOverlapOfUptoRow : OpenClaim := { program := "ytokpcdclaifkpaa", sum := "94487352ef404475f4537a4a87ab365431b7aa6cecbf7a79dbde092fb7e8afe0", func := "loop.example/overlappingtexts/laws.FnOverlapOf", spec := "fnOverlapOf", unfollowed := true, recurses := true, apart := false, narrowed := true }
def FnOverlapOfUptoSaid : Prop := fnOverlapOfUptoRow.holds Try.pinned (OpenSpec.upto fnOverlapOfSpec)

/-- 'laws.FnPeriodsOf', WHERE WHAT IT READS IS OF BULK AT MOST 1048576: true; the input reads as it did. -/
def fnPeriodsOfUptoRow : OpenClaim := { program := "ytokpcdclaifkpaa", sum := "94487352ef404475f4537a4a87ab365431b7aa6cecbf7a79dbde092fb7e8afe0", func := "loop.example/overlappingtexts/laws.FnPeriodsOf", spec := "fnPeriodsOf", apart := false, narrowed := true }
def FnPeriodsOfUptoSaid : Prop := fnPeriodsOfUptoRow.holds Try.pinned (OpenSpec.upto fnPeriodsOfSpec)

/-- 'laws.FnCommonRow', WHERE WHAT IT READS IS OF BULK AT MOST 1048576: true; the input reads as it did. -/
def fnCommonRowUptoRow : OpenClaim := { program := "ytokpcdclaifkpaa", sum := "94487352ef404475f4537a4a87ab365431b7aa6cecbf7a79dbde092fb7e8afe0", func := "loop.example/overlappingtexts/laws.FnCommonRow", spec := "fnCommonRow", apart := false, narrowed := true }
def FnCommonRowUptoSaid : Prop := fnCommonRowUptoRow.holds Try.pinned (OpenSpec.upto fnCommonRowSpec)

/-- 'laws.FnPlacesOf', WHERE WHAT IT READS IS OF BULK AT MOST 1048576: true; the input reads as it did. -/
def fnPlacesOfUptoRow : OpenClaim := { program := "ytokpcdclaifkpaa", sum := "94487352ef404475f4537a4a87ab365431b7aa6cecbf7a79dbde092fb7e8afe0", func := "loop.example/overlappingtexts/laws.FnPlacesOf", spec := "fnPlacesOf", apart := false, narrowed := true }
def FnPlacesOfUptoSaid : Prop := fnPlacesOfUptoRow.holds Try.pinned (OpenSpec.upto fnPlacesOfSpec)

/-- 'laws.FnBordersOf', WHERE WHAT IT READS IS OF BULK AT MOST 1048576: true; the input reads as it did. -/
def fnBordersOfUptoRow : OpenClaim := { program := "ytokpcdclaifkpaa", sum := "94487352ef404475f4537a4a87ab365431b7aa6cecbf7a79dbde092fb7e8afe0", func := "loop.example/overlappingtexts/laws.FnBordersOf", spec := "fnBordersOf", unfollowed := true, recurses := true, apart := false, narrowed := true }
def FnBordersOfUptoSaid : Prop := fnBordersOfUptoRow.holds Try.pinned (OpenSpec.upto fnBordersOfSpec)

/-- 'laws.FnCoversOf', WHERE WHAT IT READS IS OF BULK AT MOST 1048576: true; the input reads as it did. -/
def fnCoversOfUptoRow : OpenClaim := { program := "ytokpcdclaifkpaa", sum := "94487352ef404475f4537a4a87ab365431b7aa6cecbf7a79dbde092fb7e8afe0", func := "loop.example/overlappingtexts/laws.FnCoversOf", spec := "fnCoversOf", apart := false, narrowed := true }
def FnCoversOfUptoSaid : Prop := fnCoversOfUptoRow.holds Try.pinned (OpenSpec.upto fnCoversOfSpec)

/-- 'laws.FnIsRow', WHERE WHAT IT READS IS OF BULK AT MOST 1048576: true; the input reads as it did. -/
def fnIsRowUptoRow : OpenClaim := { program := "ytokpcdclaifkpaa", sum := "94487352ef404475f4537a4a87ab365431b7aa6cecbf7a79dbde092fb7e8afe0", func := "loop.example/overlappingtexts/laws.FnIsRow", spec := "fnIsRow", inPlace := ["internal/bytealg.IndexByteString", "internal/bytealg.IndexString"], named := ["internal/bytealg.MaxLen"], apart := false, narrowed := true }
def FnIsRowUptoSaid : Prop := fnIsRowUptoRow.holds Try.pinned (OpenSpec.upto fnIsRowSpec)

/-- 'laws.FnMixTwo', WHERE WHAT IT READS IS OF BULK AT MOST 1048576: true; the input reads as it did. -/
def fnMixTwoUptoRow : OpenClaim := { program := "ytokpcdclaifkpaa", sum := "94487352ef404475f4537a4a87ab365431b7aa6cecbf7a79dbde092fb7e8afe0", func := "loop.example/overlappingtexts/laws.FnMixTwo", spec := "fnMixTwo", inPlace := ["internal/abi.NoEscape"], apart := false, narrowed := true }
def FnMixTwoUptoSaid : Prop := fnMixTwoUptoRow.holds Try.pinned (OpenSpec.upto fnMixTwoSpec)

/-- 'laws.FnExactMixTwo', WHERE WHAT IT READS IS OF BULK AT MOST 1048576: true; the input reads as it did. -/
def fnExactMixTwoUptoRow : OpenClaim := { program := "ytokpcdclaifkpaa", sum := "94487352ef404475f4537a4a87ab365431b7aa6cecbf7a79dbde092fb7e8afe0", func := "loop.example/overlappingtexts/laws.FnExactMixTwo", spec := "fnExactMixTwo", inPlace := ["internal/abi.NoEscape"], apart := false, narrowed := true }
def FnExactMixTwoUptoSaid : Prop := fnExactMixTwoUptoRow.holds Try.pinned (OpenSpec.upto fnExactMixTwoSpec)

end Rows
end Go.Proofs.Ytokpcdclaifkpaa
