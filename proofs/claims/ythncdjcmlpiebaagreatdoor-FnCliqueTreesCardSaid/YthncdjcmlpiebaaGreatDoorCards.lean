/-
  DERIVED. GIVEN WITH THE SEED: THE CARDS: each row of YthncdjcmlpiebaaGreatDoorRows.lean that lists a variable, with what it lists TIED to the program's text (the seventh form; the later family's looks); each row that meets fmt, with fmt's text TOLD by the authors' own Lean function (tested against real Go, not proved from fmt's source: count such statements apart). THE CARD IS WHAT COUNTS. Prove the row's statement (the work); the ties are given (YthncdjcmlpiebaaGreatDoorTie.lean); close each card by the builder's one call (the guide's Derived/Test/ToyasCard.lean, 'card_holds'). Laid BY PROGRAM, IN A SANDBOX (cutbox-door.mjs). By AI agents, Wed Nov 11 2026. No macro, syntax, notation, axiom, sorry.
-/
import Derived.Test.YthncdjcmlpiebaaGreatDoorRows
import GoSem.ClaimSeven
namespace Go.Proofs.YthncdjcmlpiebaaGreatDoor
namespace Rows

/-- THE TIED CARD OF 'laws.FnModels'. -/
def fnModelsCard : Claim7 := { stood := { row := fnModelsRow, standIns := [], harness := (true, "7277b659d616de5f0a1a93e348f354ee35e9504999547b138dd272fb490cdde2"), looks := false }, kinds := [], alts := [], laidByText := true, laidKinds := [.data, .data, .data], laidTests := true, laidLooks := .later }
def FnModelsCardSaid : Prop := Claim7.holds Tryz.pinned (.plain (OpenSpec.ofChange fnModelsSpec)) fnModelsCard

/-- THE TIED CARD OF 'laws.FnCliqueTrees'. -/
def fnCliqueTreesCard : Claim7 := { stood := { row := fnCliqueTreesRow, standIns := [], harness := (true, "7277b659d616de5f0a1a93e348f354ee35e9504999547b138dd272fb490cdde2"), looks := false }, kinds := [], alts := [], laidByText := true, laidKinds := [.data, .data, .data], laidTests := true, laidLooks := .later }
def FnCliqueTreesCardSaid : Prop := Claim7.holds Tryz.pinned (.plain (OpenSpec.ofChange fnCliqueTreesSpec)) fnCliqueTreesCard

/-- THE SECOND FORM's CARD OF 'laws.FnModels'. -/
def fnModelsUptoCard : Claim7 := { stood := { row := fnModelsUptoRow, standIns := [], harness := (true, "7277b659d616de5f0a1a93e348f354ee35e9504999547b138dd272fb490cdde2"), looks := false }, kinds := [], alts := [], laidByText := true, laidKinds := [.data, .data, .data], laidTests := true, laidLooks := .later }
def FnModelsUptoCardSaid : Prop := Claim7.holds Tryz.pinned (.plain (OpenSpec.upto fnModelsSpec)) fnModelsUptoCard

/-- THE SECOND FORM's CARD OF 'laws.FnCliqueTrees'. -/
def fnCliqueTreesUptoCard : Claim7 := { stood := { row := fnCliqueTreesUptoRow, standIns := [], harness := (true, "7277b659d616de5f0a1a93e348f354ee35e9504999547b138dd272fb490cdde2"), looks := false }, kinds := [], alts := [], laidByText := true, laidKinds := [.data, .data, .data], laidTests := true, laidLooks := .later }
def FnCliqueTreesUptoCardSaid : Prop := Claim7.holds Tryz.pinned (.plain (OpenSpec.upto fnCliqueTreesSpec)) fnCliqueTreesUptoCard
end Rows
end Go.Proofs.YthncdjcmlpiebaaGreatDoor
