/-
  DERIVED. GIVEN WITH THE SEED: THE CARDS: each row of YtlanodchnjojoaaGreatDoorRows.lean that lists a variable, with what it lists TIED to the program's text (the seventh form; the later family's looks); each row that meets fmt, with fmt's text TOLD by the authors' own Lean function (tested against real Go, not proved from fmt's source: count such statements apart). THE CARD IS WHAT COUNTS. Prove the row's statement (the work); the ties are given (YtlanodchnjojoaaGreatDoorTie.lean); close each card by the builder's one call (the guide's Derived/Test/ToyasCard.lean, 'card_holds'). Laid BY PROGRAM, IN A SANDBOX (cutbox-door.mjs). By AI agents, Wed Nov 11 2026. No macro, syntax, notation, axiom, sorry.
-/
import Derived.Test.YtlanodchnjojoaaGreatDoorRows
import GoSem.ClaimSeven
namespace Go.Proofs.YtlanodchnjojoaaGreatDoor
namespace Rows

/-- THE TIED CARD OF 'canticlelaw06.PatternNames'. -/
def patternNamesCard : Claim7 := { stood := { row := patternNamesRow, standIns := [], harness := (true, "82e65d266fc5fd4fbdd672938fac5f0d2e8153f8ef9467aca605d930d60fa9d5"), looks := true }, kinds := [], alts := [], laidByText := true, laidKinds := [.data, .data, .data, .sentinel, .sentinel], laidTests := true, laidLooks := .later }
def PatternNamesCardSaid : Prop := Claim7.holds Tryz.pinned (.plain (OpenSpec.ofChange patternNamesSpec)) patternNamesCard

/-- THE SECOND FORM's CARD OF 'canticlelaw06.PatternNames'. -/
def patternNamesUptoCard : Claim7 := { stood := { row := patternNamesUptoRow, standIns := [], harness := (true, "82e65d266fc5fd4fbdd672938fac5f0d2e8153f8ef9467aca605d930d60fa9d5"), looks := true }, kinds := [], alts := [], laidByText := true, laidKinds := [.data, .data, .data, .sentinel, .sentinel], laidTests := true, laidLooks := .later }
def PatternNamesUptoCardSaid : Prop := Claim7.holds Tryz.pinned (.plain (OpenSpec.upto patternNamesSpec)) patternNamesUptoCard
end Rows
end Go.Proofs.YtlanodchnjojoaaGreatDoor
