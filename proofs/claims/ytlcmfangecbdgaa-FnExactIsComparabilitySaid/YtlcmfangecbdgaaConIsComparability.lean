/- IsComparability: the contracts of the reference's and of the program's function, as the law asks them. -/
import Derived.Test.YtlcmfangecbdgaaW13s
import Derived.Test.YtlcmfangecbdgaaLaw2
namespace Go.Proofs.Ytlcmfangecbdgaa
open Go.RowKit
theorem specIsComparability_law {N0 : Int} {A0 : Option Addr} {n0 c0 : Nat} {X0 : List Int} {w : World} (hx0 : RI w A0 n0 X0) (hn0 : n0 ≤ 1048576) (_fx0 : Fits X0) :
    Calls Try.prog 41 #[.agg #[.int .i64 N0, .slice A0 n0 c0]] w fun e w' => e = .returned (.bool (isComp N0 X0)) ∧ Below w.heap.size w w' :=
  specIsComparability_any _ _ _ _ _ _ hx0 (by omega)
theorem implIsComparability_law {N0 : Int} {A0 : Option Addr} {n0 c0 : Nat} {X0 : List Int} {w : World} (hx0 : RI w A0 n0 X0) (hn0 : n0 ≤ 1048576) (_fx0 : Fits X0) :
    Calls Try.prog 42 #[.agg #[.int .i64 N0, .slice A0 n0 c0]] w fun e w' => e = .returned (.bool (isComp N0 X0)) ∧ Below w.heap.size w w' :=
  implIsComparability_any _ _ _ _ _ _ hx0 (by omega)
end Go.Proofs.Ytlcmfangecbdgaa
