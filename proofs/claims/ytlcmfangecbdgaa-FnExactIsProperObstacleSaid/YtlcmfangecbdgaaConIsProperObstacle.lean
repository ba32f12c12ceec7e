/- IsProperObstacle: the contracts of the reference's and of the program's function, as the law asks them. -/
import Derived.Test.YtlcmfangecbdgaaW4k
import Derived.Test.YtlcmfangecbdgaaLaw2
namespace Go.Proofs.Ytlcmfangecbdgaa
open Go.RowKit
theorem specIsProperObstacle_law {N0 : Int} {A0 : Option Addr} {n0 c0 : Nat} {X0 : List Int} {A1 : Option Addr} {n1 c1 : Nat} {X1 : List Int} {w : World} (hx0 : RI w A0 n0 X0) (hn0 : n0 ≤ 1048576) (_fx0 : Fits X0) (hx1 : RI w A1 n1 X1) (hn1 : n1 ≤ 1048576) (_hc1 : n1 ≤ c1) (_hd1 : c1 ≤ 1048576) (_fx1 : Fits X1) :
    Calls Try.prog 43 #[.agg #[.int .i64 N0, .slice A0 n0 c0], .slice A1 n1 c1] w fun e w' => e = .returned (.bool (isPrObs N0 X0 X1)) ∧ Below w.heap.size w w' :=
  specIsPrObs_any _ _ _ _ _ _ _ _ _ _ hx0 hx1 (by omega) (by omega)
theorem implIsProperObstacle_law {N0 : Int} {A0 : Option Addr} {n0 c0 : Nat} {X0 : List Int} {A1 : Option Addr} {n1 c1 : Nat} {X1 : List Int} {w : World} (hx0 : RI w A0 n0 X0) (hn0 : n0 ≤ 1048576) (_fx0 : Fits X0) (hx1 : RI w A1 n1 X1) (hn1 : n1 ≤ 1048576) (hc1 : n1 ≤ c1) (_hd1 : c1 ≤ 1048576) (_fx1 : Fits X1) :
    Calls Try.prog 44 #[.agg #[.int .i64 N0, .slice A0 n0 c0], .slice A1 n1 c1] w fun e w' => e = .returned (.bool (isPrObs N0 X0 X1)) ∧ Below w.heap.size w w' :=
  implIsPrObs_any _ _ _ _ _ _ _ _ _ _ hx0 hx1 (by omega) (by omega) hc1
end Go.Proofs.Ytlcmfangecbdgaa
