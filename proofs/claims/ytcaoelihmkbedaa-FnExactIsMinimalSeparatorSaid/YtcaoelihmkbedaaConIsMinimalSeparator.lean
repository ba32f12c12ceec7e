/- IsMinimalSeparator: the contracts of the reference's and of the program's function, as the law asks them. -/
import Derived.Test.YtcaoelihmkbedaaW8d
import Derived.Test.YtcaoelihmkbedaaLaw2
namespace Go.Proofs.Ytcaoelihmkbedaa
open Go.RowKit
theorem specIsMinimalSeparator_law {N0 : Int} {A0 : Option Addr} {n0 c0 : Nat} {X0 : List Int} {x1 : Int} {w : World} (hx0 : RI w A0 n0 X0) (hn0 : n0 ≤ 1048576) (_fx0 : Fits X0) (_fi1 : -9223372036854775808 ≤ x1 ∧ x1 ≤ 9223372036854775807) :
    Calls Try.prog 47 #[.agg #[.int .i64 N0, .slice A0 n0 c0], .int .i64 x1] w fun e w' => e = .returned (.bool (isMinSep N0 X0 x1)) ∧ Below w.heap.size w w' :=
  specIsMinimalSeparator_any _ _ _ _ _ _ _ hx0 (by omega)
theorem implIsMinimalSeparator_law {N0 : Int} {A0 : Option Addr} {n0 c0 : Nat} {X0 : List Int} {x1 : Int} {w : World} (hx0 : RI w A0 n0 X0) (hn0 : n0 ≤ 1048576) (_fx0 : Fits X0) (_fi1 : -9223372036854775808 ≤ x1 ∧ x1 ≤ 9223372036854775807) :
    Calls Try.prog 48 #[.agg #[.int .i64 N0, .slice A0 n0 c0], .int .i64 x1] w fun e w' => e = .returned (.bool (isMinSep N0 X0 x1)) ∧ Below w.heap.size w w' :=
  implIsMinimalSeparator_any _ _ _ _ _ _ _ hx0 (by omega)
end Go.Proofs.Ytcaoelihmkbedaa
