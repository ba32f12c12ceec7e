/- LargestClique: the contracts of the reference's and of the program's function, as the law asks them. -/
import Derived.Test.YtcaoelihmkbedaaW7b
import Derived.Test.YtcaoelihmkbedaaLaw2
namespace Go.Proofs.Ytcaoelihmkbedaa
open Go.RowKit
theorem specLargestClique_law {N0 : Int} {A0 : Option Addr} {n0 c0 : Nat} {X0 : List Int} {w : World} (hx0 : RI w A0 n0 X0) (hn0 : n0 ≤ 1048576) (_fx0 : Fits X0) :
    Calls Try.prog 29 #[.agg #[.int .i64 N0, .slice A0 n0 c0]] w fun e w' => e = .returned (.int .i64 (ofGraph N0 X0 0 (largestOf clq))) ∧ Below w.heap.size w w' :=
  specLargestClique_any _ _ _ _ _ _ hx0 (by omega)
theorem implLargestClique_law {N0 : Int} {A0 : Option Addr} {n0 c0 : Nat} {X0 : List Int} {w : World} (hx0 : RI w A0 n0 X0) (hn0 : n0 ≤ 1048576) (_fx0 : Fits X0) :
    Calls Try.prog 30 #[.agg #[.int .i64 N0, .slice A0 n0 c0]] w fun e w' => e = .returned (.int .i64 (ofGraph N0 X0 0 (largestOf clq))) ∧ Below w.heap.size w w' :=
  implLargestClique_any _ _ _ _ _ _ hx0 (by omega)
end Go.Proofs.Ytcaoelihmkbedaa
