/- FormatIntervals: the contracts of the reference's and of the program's function, as the law asks them. -/
import Derived.Test.YtnaoomchekhcgaaDoorWv
namespace Go.Proofs.YtnaoomchekhcgaaDoor
open Go.RowKit
theorem specFormatIntervals_law {A0 : Option Addr} {n0 c0 : Nat} {X0 : List Int} {B0 : Option Addr} {m0 d0 : Nat} {Y0 : List Int} {w : World} (hx0 : RI w A0 n0 X0) (hy0 : RI w B0 m0 Y0) (hn0 : n0 ≤ 1048576) (hm0 : m0 ≤ 1048576) (_fx0 : Fits X0) (_fy0 : Fits Y0) :
    Calls Tryd.prog 11 #[.agg #[.slice A0 n0 c0, .slice B0 m0 d0]] w fun e w' => e = .returned (.string (sb (fivs X0 Y0))) ∧ Below w.heap.size w w' :=
  specFormatIntervals_any _ _ _ _ _ _ _ _ _ hx0 hy0 hn0 hm0
theorem implFormatIntervals_law {A0 : Option Addr} {n0 c0 : Nat} {X0 : List Int} {B0 : Option Addr} {m0 d0 : Nat} {Y0 : List Int} {w : World} (hx0 : RI w A0 n0 X0) (hy0 : RI w B0 m0 Y0) (hn0 : n0 ≤ 1048576) (hm0 : m0 ≤ 1048576) (_fx0 : Fits X0) (_fy0 : Fits Y0) :
    Calls Tryd.prog 13 #[.agg #[.slice A0 n0 c0, .slice B0 m0 d0]] w fun e w' => e = .returned (.string (sb (fivs X0 Y0))) ∧ Below w.heap.size w w' :=
  implFormatIntervals_any _ _ _ _ _ _ _ _ _ hx0 hy0 hn0 hm0
end Go.Proofs.YtnaoomchekhcgaaDoor
