/- TriplePaths: the contracts of the reference's and of the program's function, as the law asks them. -/
import Derived.Test.YtlcmfangecbdgaaW11f
import Derived.Test.YtlcmfangecbdgaaLaw5
namespace Go.Proofs.Ytlcmfangecbdgaa
open Go.RowKit
def resTriplePaths (N0 : Int) (X0 : List Int) (x1 x2 x3 : Int) : List (List Int) := tripPaths N0 X0 x1 x2 x3
def flagTriplePaths (N0 : Int) (X0 : List Int) (x1 x2 x3 : Int) : Bool := isTrip N0 X0 x1 x2 x3
theorem resTriplePaths_len (N0 : Int) (X0 : List Int) (x1 x2 x3 : Int) : sumL (resTriplePaths N0 X0 x1 x2 x3) ≤ 1048576 ∧ (resTriplePaths N0 X0 x1 x2 x3).length ≤ 1048576 := tripPaths_len N0 X0 x1 x2 x3
theorem specTriplePaths_law {N0 : Int} {A0 : Option Addr} {n0 c0 : Nat} {X0 : List Int} {x1 : Int} {x2 : Int} {x3 : Int} {w : World} (hx0 : RI w A0 n0 X0) (hn0 : n0 ≤ 1048576) (_fx0 : Fits X0) (_fi1 : -9223372036854775808 ≤ x1 ∧ x1 ≤ 9223372036854775807) (_fi2 : -9223372036854775808 ≤ x2 ∧ x2 ≤ 9223372036854775807) (_fi3 : -9223372036854775808 ≤ x3 ∧ x3 ≤ 9223372036854775807) :
    Calls Try.prog 36 #[.agg #[.int .i64 N0, .slice A0 n0 c0], .int .i64 x1, .int .i64 x2, .int .i64 x3] w (GivesSB (resTriplePaths N0 X0 x1 x2 x3) (flagTriplePaths N0 X0 x1 x2 x3) w) :=
  specTriplePaths_any _ _ _ _ _ _ _ _ _ hx0 (by omega)
theorem implTriplePaths_law {N0 : Int} {A0 : Option Addr} {n0 c0 : Nat} {X0 : List Int} {x1 : Int} {x2 : Int} {x3 : Int} {w : World} (hx0 : RI w A0 n0 X0) (hn0 : n0 ≤ 1048576) (_fx0 : Fits X0) (_fi1 : -9223372036854775808 ≤ x1 ∧ x1 ≤ 9223372036854775807) (_fi2 : -9223372036854775808 ≤ x2 ∧ x2 ≤ 9223372036854775807) (_fi3 : -9223372036854775808 ≤ x3 ∧ x3 ≤ 9223372036854775807) :
    Calls Try.prog 37 #[.agg #[.int .i64 N0, .slice A0 n0 c0], .int .i64 x1, .int .i64 x2, .int .i64 x3] w (GivesSB (resTriplePaths N0 X0 x1 x2 x3) (flagTriplePaths N0 X0 x1 x2 x3) w) :=
  implTriplePaths_any _ _ _ _ _ _ _ _ _ hx0 (by omega)
end Go.Proofs.Ytlcmfangecbdgaa
