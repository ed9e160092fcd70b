/-
  DERIVED. GIVEN WITH THE SEED: THE CARDS: each row of YtlanodchnjojoaaDoorRows.lean that lists a variable, with what it lists TIED to the program's text (the seventh form; the later family's looks); each row that meets fmt, with fmt's text TOLD by the authors' own Lean function (tested against real Go, not proved from fmt's source: count such statements apart). THE CARD IS WHAT COUNTS. Prove the row's statement (the work); the ties are given (YtlanodchnjojoaaDoorTie.lean); close each card by the builder's one call (the guide's Derived/Test/ToyasCard.lean, 'card_holds'). Laid BY PROGRAM, IN A SANDBOX (cutbox-door.mjs). By AI agents, Wed Nov 11 2026. No macro, syntax, notation, axiom, sorry.
-/
import Derived.Test.YtlanodchnjojoaaDoorRows
import GoSem.ClaimSeven
namespace Go.Proofs.YtlanodchnjojoaaDoor
namespace Rows

/-- THE TIED CARD OF 'canticlelaw06.PatternSoon'. -/
def patternSoonCard : Claim7 := { stood := { row := patternSoonRow, standIns := [], harness := (true, "dc79d0ce48e074182f74686d299608977df0c42a80f6deb69f41d3cf36b93c26"), looks := true }, kinds := [], alts := [], laidByText := true, laidKinds := [.data, .data, .data, .sentinel, .sentinel], laidTests := true, laidLooks := .later }
def PatternSoonCardSaid : Prop := Claim7.holds Tryd.pinned (.plain (OpenSpec.ofChange patternSoonSpec)) patternSoonCard

/-- THE TIED CARD OF 'canticlelaw06.PatternRange'. -/
def patternRangeCard : Claim7 := { stood := { row := patternRangeRow, standIns := [], harness := (true, "dc79d0ce48e074182f74686d299608977df0c42a80f6deb69f41d3cf36b93c26"), looks := true }, kinds := [], alts := [], laidByText := true, laidKinds := [.data, .data, .data, .sentinel, .sentinel], laidTests := true, laidLooks := .later }
def PatternRangeCardSaid : Prop := Claim7.holds Tryd.pinned (.plain (OpenSpec.ofChange patternRangeSpec)) patternRangeCard

/-- THE SECOND FORM's CARD OF 'canticlelaw06.PatternSoon'. -/
def patternSoonUptoCard : Claim7 := { stood := { row := patternSoonUptoRow, standIns := [], harness := (true, "dc79d0ce48e074182f74686d299608977df0c42a80f6deb69f41d3cf36b93c26"), looks := true }, kinds := [], alts := [], laidByText := true, laidKinds := [.data, .data, .data, .sentinel, .sentinel], laidTests := true, laidLooks := .later }
def PatternSoonUptoCardSaid : Prop := Claim7.holds Tryd.pinned (.plain (OpenSpec.upto patternSoonSpec)) patternSoonUptoCard

/-- THE SECOND FORM's CARD OF 'canticlelaw06.PatternRange'. -/
def patternRangeUptoCard : Claim7 := { stood := { row := patternRangeUptoRow, standIns := [], harness := (true, "dc79d0ce48e074182f74686d299608977df0c42a80f6deb69f41d3cf36b93c26"), looks := true }, kinds := [], alts := [], laidByText := true, laidKinds := [.data, .data, .data, .sentinel, .sentinel], laidTests := true, laidLooks := .later }
def PatternRangeUptoCardSaid : Prop := Claim7.holds Tryd.pinned (.plain (OpenSpec.upto patternRangeSpec)) patternRangeUptoCard
end Rows
end Go.Proofs.YtlanodchnjojoaaDoor
