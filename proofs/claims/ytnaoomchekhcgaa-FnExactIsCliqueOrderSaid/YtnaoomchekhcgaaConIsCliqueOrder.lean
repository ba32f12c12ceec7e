/- IsCliqueOrder: the contracts of the reference's and of the program's function, as the law asks them. -/
import Derived.Test.YtnaoomchekhcgaaW10i
import Derived.Test.YtnaoomchekhcgaaLaw2
namespace Go.Proofs.Ytnaoomchekhcgaa
open Go.RowKit
theorem specIsCliqueOrder_law {N0 : Int} {A0 : Option Addr} {n0 c0 : Nat} {X0 : List Int} {A1 : Option Addr} {n1 c1 : Nat} {X1 : List Int} {w : World} (hx0 : RI w A0 n0 X0) (hn0 : n0 ≤ 1048576) (_fx0 : Fits X0) (hx1 : RI w A1 n1 X1) (hn1 : n1 ≤ 1048576) (_hc1 : n1 ≤ c1) (_hd1 : c1 ≤ 1048576) (_fx1 : Fits X1) :
    Calls Try.prog 38 #[.agg #[.int .i64 N0, .slice A0 n0 c0], .slice A1 n1 c1] w fun e w' => e = .returned (.bool (isCliqOrd N0 X0 X1)) ∧ Below w.heap.size w w' :=
  specIsCliqueOrder_any _ _ _ _ _ _ _ _ _ _ hx0 hx1 (by omega) (by omega)
theorem implIsCliqueOrder_law {N0 : Int} {A0 : Option Addr} {n0 c0 : Nat} {X0 : List Int} {A1 : Option Addr} {n1 c1 : Nat} {X1 : List Int} {w : World} (hx0 : RI w A0 n0 X0) (hn0 : n0 ≤ 1048576) (_fx0 : Fits X0) (hx1 : RI w A1 n1 X1) (hn1 : n1 ≤ 1048576) (_hc1 : n1 ≤ c1) (_hd1 : c1 ≤ 1048576) (_fx1 : Fits X1) :
    Calls Try.prog 40 #[.agg #[.int .i64 N0, .slice A0 n0 c0], .slice A1 n1 c1] w fun e w' => e = .returned (.bool (isCliqOrd N0 X0 X1)) ∧ Below w.heap.size w w' :=
  implIsCliqueOrder_any _ _ _ _ _ _ _ _ _ _ hx0 hx1 (by omega) (by omega)
end Go.Proofs.Ytnaoomchekhcgaa
