/- The marks that a law lays into structs, and their reading. -/
import Derived.Test.YtnaoomchekhcgaaDoorLaw3
namespace Go.Proofs.YtnaoomchekhcgaaDoor
open Go.RowKit
set_option maxRecDepth 100000
theorem grown_of_up {B : Nat} {w w' : World} {row : Option Nat} (hb : Below B w w') (hB : w.heap.size ≤ B) : w.grownBy w' row := ⟨hb.os, hb.tape, hb.output, Nat.le_trans (by exact Nat.le_refl _) hb.size, fun i hi _ => hb.block i (Nat.lt_of_lt_of_le hi hB)⟩