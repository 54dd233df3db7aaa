/-
  DERIVED. GIVEN WITH THE SEED: THE CARDS: each row of YtllcebmbaejlhaaDoorRows.lean that lists a variable, with what it lists TIED to the program's text (the seventh form; the later family's looks); each row that meets fmt, with fmt's text TOLD by the authors' own Lean function (tested against real Go, not proved from fmt's source: count such statements apart). THE CARD IS WHAT COUNTS. Prove the row's statement (the work); the ties are given (YtllcebmbaejlhaaDoorTie.lean); close each card by the builder's one call (the guide's Derived/Test/ToyasCard.lean, 'card_holds'). Laid BY PROGRAM, IN A SANDBOX (cutbox-door.mjs). By AI agents, Wed Nov 11 2026. No macro, syntax, notation, axiom, sorry.
-/
import Derived.Test.YtllcebmbaejlhaaDoorRows
import GoSem.ClaimSeven
namespace Go.Proofs.YtllcebmbaejlhaaDoor
namespace Rows

/-- THE TIED CARD OF 'laws.FnExactFormatEvent'. -/
def fnExactFormatEventCard : Claim7 := { stood := { row := fnExactFormatEventRow, standIns := [], harness := (true, "9ac6474be0f34a0c998b840f55f32214262e9a903e1fc953918ab03ffc8b5661"), looks := false }, kinds := [], alts := [], laidByText := true, laidKinds := [.data, .data, .data], laidTests := true, laidLooks := .later }
def FnExactFormatEventCardSaid : Prop := Claim7.holds Tryd.pinned (.plain (OpenSpec.ofChange fnExactFormatEventSpec)) fnExactFormatEventCard

/-- THE SECOND FORM's CARD OF 'laws.FnExactFormatEvent'. -/
def fnExactFormatEventUptoCard : Claim7 := { stood := { row := fnExactFormatEventUptoRow, standIns := [], harness := (true, "9ac6474be0f34a0c998b840f55f32214262e9a903e1fc953918ab03ffc8b5661"), looks := false }, kinds := [], alts := [], laidByText := true, laidKinds := [.data, .data, .data], laidTests := true, laidLooks := .later }
def FnExactFormatEventUptoCardSaid : Prop := Claim7.holds Tryd.pinned (.plain (OpenSpec.upto fnExactFormatEventSpec)) fnExactFormatEventUptoCard
end Rows
end Go.Proofs.YtllcebmbaejlhaaDoor
