/- IsProper: the contracts of the reference's and of the program's function, as the law asks them. -/
import Derived.Test.YtfodbgogeclifaaW12i
import Derived.Test.YtfodbgogeclifaaLaw2
namespace Go.Proofs.Ytfodbgogeclifaa
open Go.RowKit
theorem specIsProper_law {N0 : Int} {A0 : Option Addr} {n0 c0 : Nat} {X0 : List Int} {w : World} (hx0 : RI w A0 n0 X0) (hn0 : n0 ≤ 1048576) (_fx0 : Fits X0) :
    Calls Try.prog 40 #[.agg #[.int .i64 N0, .slice A0 n0 c0]] w fun e w' => e = .returned (.bool (umbOf N0 X0).isSome) ∧ Below w.heap.size w w' :=
  specIsProper_any _ _ _ _ _ _ hx0 (by omega)
theorem implIsProper_law {N0 : Int} {A0 : Option Addr} {n0 c0 : Nat} {X0 : List Int} {w : World} (hx0 : RI w A0 n0 X0) (hn0 : n0 ≤ 1048576) (_fx0 : Fits X0) :
    Calls Try.prog 41 #[.agg #[.int .i64 N0, .slice A0 n0 c0]] w fun e w' => e = .returned (.bool (umbOf N0 X0).isSome) ∧ Below w.heap.size w w' :=
  implIsProper_any _ _ _ _ _ _ hx0 (by omega)
end Go.Proofs.Ytfodbgogeclifaa
