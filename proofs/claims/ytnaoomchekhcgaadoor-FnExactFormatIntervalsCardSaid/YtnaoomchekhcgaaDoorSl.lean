/- Two slices of numbers held one against the other: the reference's way, the library's way. -/
import Derived.Test.YtnaoomchekhcgaaDoorLaw
namespace Go.Proofs.YtnaoomchekhcgaaDoor
open Go.RowKit