/- IsCliqueTree: the contracts of the reference's and of the program's function, as the law asks them. -/
import Derived.Test.YtnaoomchekhcgaaW8z
import Derived.Test.YtnaoomchekhcgaaLaw2
namespace Go.Proofs.Ytnaoomchekhcgaa
open Go.RowKit
theorem specIsCliqueTree_law {N0 : Int} {A0 : Option Addr} {n0 c0 : Nat} {X0 : List Int} {A1 : Option Addr} {n1 c1 : Nat} {X1 : List Int} {B1 : Option Addr} {m1 d1 : Nat} {Y1 : List Int} {w : World} (hx0 : RI w A0 n0 X0) (hn0 : n0 ≤ 1048576) (_fx0 : Fits X0) (hx1 : RI w A1 n1 X1) (hy1 : RI w B1 m1 Y1) (hn1 : n1 ≤ 1048576) (hm1 : m1 ≤ 1048576) (_fx1 : Fits X1) (_fy1 : Fits Y1) :
    Calls Try.prog 41 #[.agg #[.int .i64 N0, .slice A0 n0 c0], .agg #[.slice A1 n1 c1, .slice B1 m1 d1]] w fun e w' => e = .returned (.bool (isCliqTree N0 X0 X1 Y1)) ∧ Below w.heap.size w w' :=
  specIsCliqueTree_any _ _ _ _ _ _ _ _ _ _ _ _ _ _ hx0 hx1 hy1 (by omega) hn1 hm1
theorem implIsCliqueTree_law {N0 : Int} {A0 : Option Addr} {n0 c0 : Nat} {X0 : List Int} {A1 : Option Addr} {n1 c1 : Nat} {X1 : List Int} {B1 : Option Addr} {m1 d1 : Nat} {Y1 : List Int} {w : World} (hx0 : RI w A0 n0 X0) (hn0 : n0 ≤ 1048576) (_fx0 : Fits X0) (hx1 : RI w A1 n1 X1) (hy1 : RI w B1 m1 Y1) (hn1 : n1 ≤ 1048576) (hm1 : m1 ≤ 1048576) (_fx1 : Fits X1) (_fy1 : Fits Y1) :
    Calls Try.prog 42 #[.agg #[.int .i64 N0, .slice A0 n0 c0], .agg #[.slice A1 n1 c1, .slice B1 m1 d1]] w fun e w' => e = .returned (.bool (isCliqTree N0 X0 X1 Y1)) ∧ Below w.heap.size w w' :=
  implIsCliqueTree_any _ _ _ _ _ _ _ _ _ _ _ _ _ _ hx0 hx1 hy1 (by omega) hn1 hm1
end Go.Proofs.Ytnaoomchekhcgaa
