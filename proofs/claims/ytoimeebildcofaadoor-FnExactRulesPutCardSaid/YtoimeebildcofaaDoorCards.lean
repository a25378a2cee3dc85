/-
  DERIVED. GIVEN WITH THE SEED: THE CARDS: each row of YtoimeebildcofaaDoorRows.lean that lists a variable, with what it lists TIED to the program's text (the seventh form; the later family's looks); each row that meets fmt, with fmt's text TOLD by the authors' own Lean function (tested against real Go, not proved from fmt's source: count such statements apart). THE CARD IS WHAT COUNTS. Prove the row's statement (the work); the ties are given (YtoimeebildcofaaDoorTie.lean); close each card by the builder's one call (the guide's Derived/Test/ToyasCard.lean, 'card_holds'). Laid BY PROGRAM, IN A SANDBOX (cutbox-door.mjs). By AI agents, Wed Nov 11 2026. No macro, syntax, notation, axiom, sorry.
-/
import Derived.Test.YtoimeebildcofaaDoorRows
import GoSem.ClaimSeven
namespace Go.Proofs.YtoimeebildcofaaDoor
namespace Rows

/-- THE TIED CARD OF 'laws.FnExactRulesPut'. -/
def fnExactRulesPutCard : Claim7 := { stood := { row := fnExactRulesPutRow, standIns := [], harness := (true, "114b73bd5d4f25f482402e3246a3576f3ed0333c863d7080b86c6545f1c992dc"), looks := false }, kinds := [], alts := [], laidByText := true, laidKinds := [.data, .data, .data], laidTests := true, laidLooks := .later }
def FnExactRulesPutCardSaid : Prop := Claim7.holds Tryd.pinned (.plain (OpenSpec.ofChange fnExactRulesPutSpec)) fnExactRulesPutCard

/-- THE SECOND FORM's CARD OF 'laws.FnExactRulesPut'. -/
def fnExactRulesPutUptoCard : Claim7 := { stood := { row := fnExactRulesPutUptoRow, standIns := [], harness := (true, "114b73bd5d4f25f482402e3246a3576f3ed0333c863d7080b86c6545f1c992dc"), looks := false }, kinds := [], alts := [], laidByText := true, laidKinds := [.data, .data, .data], laidTests := true, laidLooks := .later }
def FnExactRulesPutUptoCardSaid : Prop := Claim7.holds Tryd.pinned (.plain (OpenSpec.upto fnExactRulesPutSpec)) fnExactRulesPutUptoCard
end Rows
end Go.Proofs.YtoimeebildcofaaDoor
