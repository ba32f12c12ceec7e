/- TreeSeparators: the contracts of the reference's and of the program's function, as the law asks them. -/
import Derived.Test.YtnaoomchekhcgaaW8w
import Derived.Test.YtnaoomchekhcgaaLaw4
namespace Go.Proofs.Ytnaoomchekhcgaa
open Go.RowKit
def resTreeSeparators (X0 Y0 : List Int) : List Int := treeSeps X0 Y0
theorem resTreeSeparators_len (X0 Y0 : List Int) : (resTreeSeparators X0 Y0).length ≤ 1048576 := treeSeps_len X0 Y0
theorem specTreeSeparators_law {A0 : Option Addr} {n0 c0 : Nat} {X0 : List Int} {B0 : Option Addr} {m0 d0 : Nat} {Y0 : List Int} {w : World} (hx0 : RI w A0 n0 X0) (hy0 : RI w B0 m0 Y0) (hn0 : n0 ≤ 1048576) (hm0 : m0 ≤ 1048576) (_fx0 : Fits X0) (_fy0 : Fits Y0) :
    Calls Try.prog 35 #[.agg #[.slice A0 n0 c0, .slice B0 m0 d0]] w (GivesI (resTreeSeparators X0 Y0) w) :=
  specTreeSeparators_any _ _ _ _ _ _ _ _ _ hx0 hy0 hn0 hm0
theorem implTreeSeparators_law {A0 : Option Addr} {n0 c0 : Nat} {X0 : List Int} {B0 : Option Addr} {m0 d0 : Nat} {Y0 : List Int} {w : World} (hx0 : RI w A0 n0 X0) (hy0 : RI w B0 m0 Y0) (hn0 : n0 ≤ 1048576) (hm0 : m0 ≤ 1048576) (_fx0 : Fits X0) (_fy0 : Fits Y0) :
    Calls Try.prog 37 #[.agg #[.slice A0 n0 c0, .slice B0 m0 d0]] w (GivesI (resTreeSeparators X0 Y0) w) :=
  implTreeSeparators_any _ _ _ _ _ _ _ _ _ hx0 hy0 hn0 hm0
end Go.Proofs.Ytnaoomchekhcgaa
