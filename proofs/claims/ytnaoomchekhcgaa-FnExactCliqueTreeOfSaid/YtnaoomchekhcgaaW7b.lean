/- Walks of chapter 7, second part. -/
import Derived.Test.YtnaoomchekhcgaaW7
namespace Go.Proofs.Ytnaoomchekhcgaa
open Go.RowKit

def cliqueNumber (n : Nat) (Q : List Nat) : Int := (card (bestK (clq Q) (2 ^ n - 1)) : Nat)