/- IsInterval: the contracts of the reference's and of the program's function, as the law asks them. -/
import Derived.Test.YtnaoomchekhcgaaW10h
import Derived.Test.YtnaoomchekhcgaaLaw2
namespace Go.Proofs.Ytnaoomchekhcgaa
open Go.RowKit
theorem specIsInterval_law {N0 : Int} {A0 : Option Addr} {n0 c0 : Nat} {X0 : List Int} {w : World} (hx0 : RI w A0 n0 X0) (hn0 : n0 ≤ 1048576) (_fx0 : Fits X0) :
    Calls Try.prog 16 #[.agg #[.int .i64 N0, .slice A0 n0 c0]] w fun e w' => e = .returned (.bool (ordOf N0 X0).isSome) ∧ Below w.heap.size w w' :=
  specIsInterval_any _ _ _ _ _ _ hx0 (by omega)
theorem implIsInterval_law {N0 : Int} {A0 : Option Addr} {n0 c0 : Nat} {X0 : List Int} {w : World} (hx0 : RI w A0 n0 X0) (hn0 : n0 ≤ 1048576) (_fx0 : Fits X0) :
    Calls Try.prog 17 #[.agg #[.int .i64 N0, .slice A0 n0 c0]] w fun e w' => e = .returned (.bool (ordOf N0 X0).isSome) ∧ Below w.heap.size w w' :=
  implIsInterval_any _ _ _ _ _ _ hx0 (by omega)
end Go.Proofs.Ytnaoomchekhcgaa
