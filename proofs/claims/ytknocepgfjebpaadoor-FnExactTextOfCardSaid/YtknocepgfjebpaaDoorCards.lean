/-
  DERIVED. GIVEN WITH THE SEED: THE CARDS: each row of YtknocepgfjebpaaDoorRows.lean that lists a variable, with what it lists TIED to the program's text (the seventh form; the later family's looks); each row that meets fmt, with fmt's text TOLD by the authors' own Lean function (tested against real Go, not proved from fmt's source: count such statements apart). THE CARD IS WHAT COUNTS. Prove the row's statement (the work); the ties are given (YtknocepgfjebpaaDoorTie.lean); close each card by the builder's one call (the guide's Derived/Test/ToyasCard.lean, 'card_holds'). Laid BY PROGRAM, IN A SANDBOX (cutbox-door.mjs). By AI agents, Wed Nov 11 2026. No macro, syntax, notation, axiom, sorry.
-/
import Derived.Test.YtknocepgfjebpaaDoorRows
import GoSem.ClaimSeven
namespace Go.Proofs.YtknocepgfjebpaaDoor
namespace Rows

/-- THE TIED CARD OF 'laws.FnExactTextOf'. -/
def fnExactTextOfCard : Claim7 := { stood := { row := fnExactTextOfRow, standIns := [], harness := (true, "87abc1a4fb6c928e36622dd4402ee27ca44c91006a57a423788415d9ebeabe8f"), looks := true }, kinds := [], alts := [], laidByText := true, laidKinds := [.handle], laidTests := true, laidLooks := .later }
def FnExactTextOfCardSaid : Prop := Claim7.holds Tryd.pinned (.plain (OpenSpec.ofChange fnExactTextOfSpec)) fnExactTextOfCard

/-- THE SECOND FORM's CARD OF 'laws.FnExactTextOf'. -/
def fnExactTextOfUptoCard : Claim7 := { stood := { row := fnExactTextOfUptoRow, standIns := [], harness := (true, "87abc1a4fb6c928e36622dd4402ee27ca44c91006a57a423788415d9ebeabe8f"), looks := true }, kinds := [], alts := [], laidByText := true, laidKinds := [.handle], laidTests := true, laidLooks := .later }
def FnExactTextOfUptoCardSaid : Prop := Claim7.holds Tryd.pinned (.plain (OpenSpec.upto fnExactTextOfSpec)) fnExactTextOfUptoCard
end Rows
end Go.Proofs.YtknocepgfjebpaaDoor
