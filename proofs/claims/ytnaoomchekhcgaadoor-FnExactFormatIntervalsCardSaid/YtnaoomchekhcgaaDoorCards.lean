/-
  DERIVED. GIVEN WITH THE SEED: THE CARDS: each row of YtnaoomchekhcgaaDoorRows.lean that lists a variable, with what it lists TIED to the program's text (the seventh form; the later family's looks); each row that meets fmt, with fmt's text TOLD by the authors' own Lean function (tested against real Go, not proved from fmt's source: count such statements apart). THE CARD IS WHAT COUNTS. Prove the row's statement (the work); the ties are given (YtnaoomchekhcgaaDoorTie.lean); close each card by the builder's one call (the guide's Derived/Test/ToyasCard.lean, 'card_holds'). Laid BY PROGRAM, IN A SANDBOX (cutbox-door.mjs). By AI agents, Wed Nov 11 2026. No macro, syntax, notation, axiom, sorry.
-/
import Derived.Test.YtnaoomchekhcgaaDoorRows
import GoSem.ClaimSeven
namespace Go.Proofs.YtnaoomchekhcgaaDoor
namespace Rows

/-- THE TIED CARD OF 'laws.FnExactFormatTree'. -/
def fnExactFormatTreeCard : Claim7 := { stood := { row := fnExactFormatTreeRow, standIns := [], harness := (true, "12a0a5c6aaa946d7907ac72036fd22cf99bdd72cad6db1bb3938fd6bc5bfc35b"), looks := false }, kinds := [], alts := [], laidByText := true, laidKinds := [.data, .data, .data], laidTests := true, laidLooks := .later }
def FnExactFormatTreeCardSaid : Prop := Claim7.holds Tryd.pinned (.plain (OpenSpec.ofChange fnExactFormatTreeSpec)) fnExactFormatTreeCard

/-- THE TIED CARD OF 'laws.FnExactFormatIntervals'. -/
def fnExactFormatIntervalsCard : Claim7 := { stood := { row := fnExactFormatIntervalsRow, standIns := [], harness := (true, "12a0a5c6aaa946d7907ac72036fd22cf99bdd72cad6db1bb3938fd6bc5bfc35b"), looks := false }, kinds := [], alts := [], laidByText := true, laidKinds := [.data, .data, .data], laidTests := true, laidLooks := .later }
def FnExactFormatIntervalsCardSaid : Prop := Claim7.holds Tryd.pinned (.plain (OpenSpec.ofChange fnExactFormatIntervalsSpec)) fnExactFormatIntervalsCard

/-- THE SECOND FORM's CARD OF 'laws.FnExactFormatTree'. -/
def fnExactFormatTreeUptoCard : Claim7 := { stood := { row := fnExactFormatTreeUptoRow, standIns := [], harness := (true, "12a0a5c6aaa946d7907ac72036fd22cf99bdd72cad6db1bb3938fd6bc5bfc35b"), looks := false }, kinds := [], alts := [], laidByText := true, laidKinds := [.data, .data, .data], laidTests := true, laidLooks := .later }
def FnExactFormatTreeUptoCardSaid : Prop := Claim7.holds Tryd.pinned (.plain (OpenSpec.upto fnExactFormatTreeSpec)) fnExactFormatTreeUptoCard

/-- THE SECOND FORM's CARD OF 'laws.FnExactFormatIntervals'. -/
def fnExactFormatIntervalsUptoCard : Claim7 := { stood := { row := fnExactFormatIntervalsUptoRow, standIns := [], harness := (true, "12a0a5c6aaa946d7907ac72036fd22cf99bdd72cad6db1bb3938fd6bc5bfc35b"), looks := false }, kinds := [], alts := [], laidByText := true, laidKinds := [.data, .data, .data], laidTests := true, laidLooks := .later }
def FnExactFormatIntervalsUptoCardSaid : Prop := Claim7.holds Tryd.pinned (.plain (OpenSpec.upto fnExactFormatIntervalsSpec)) fnExactFormatIntervalsUptoCard
end Rows
end Go.Proofs.YtnaoomchekhcgaaDoor
