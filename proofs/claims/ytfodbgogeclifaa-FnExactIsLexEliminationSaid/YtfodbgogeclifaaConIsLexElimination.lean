/- IsLexElimination: the contracts of the reference's and of the program's function, as the law asks them. -/
import Derived.Test.YtfodbgogeclifaaW6m
import Derived.Test.YtfodbgogeclifaaLaw2
namespace Go.Proofs.Ytfodbgogeclifaa
open Go.RowKit
theorem specIsLexElimination_law {N0 : Int} {A0 : Option Addr} {n0 c0 : Nat} {X0 : List Int} {x1 : Int} {w : World} (hx0 : RI w A0 n0 X0) (hn0 : n0 ≤ 1048576) (_fx0 : Fits X0) (_fi1 : -9223372036854775808 ≤ x1 ∧ x1 ≤ 9223372036854775807) :
    Calls Try.prog 55 #[.agg #[.int .i64 N0, .slice A0 n0 c0], .int .i64 x1] w fun e w' => e = .returned (.bool (isLexElim N0 X0 x1)) ∧ Below w.heap.size w w' :=
  specIsLexElimination_any _ _ _ _ _ _ _ hx0 (by omega)
theorem implIsLexElimination_law {N0 : Int} {A0 : Option Addr} {n0 c0 : Nat} {X0 : List Int} {x1 : Int} {w : World} (hx0 : RI w A0 n0 X0) (hn0 : n0 ≤ 1048576) (_fx0 : Fits X0) (_fi1 : -9223372036854775808 ≤ x1 ∧ x1 ≤ 9223372036854775807) :
    Calls Try.prog 56 #[.agg #[.int .i64 N0, .slice A0 n0 c0], .int .i64 x1] w fun e w' => e = .returned (.bool (isLexElim N0 X0 x1)) ∧ Below w.heap.size w w' :=
  implIsLexElimination_any _ _ _ _ _ _ _ hx0 (by omega)
end Go.Proofs.Ytfodbgogeclifaa
