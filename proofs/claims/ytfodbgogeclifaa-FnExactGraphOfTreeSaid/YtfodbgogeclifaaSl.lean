/- Two slices of numbers held one against the other: the reference's way, the library's way. -/
import Derived.Test.YtfodbgogeclifaaLaw
namespace Go.Proofs.Ytfodbgogeclifaa
open Go.RowKit