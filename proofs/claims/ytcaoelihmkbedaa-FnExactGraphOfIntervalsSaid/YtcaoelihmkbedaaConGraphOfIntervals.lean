/- GraphOfIntervals: the contracts of the reference's and of the program's function, as the law asks them. -/
import Derived.Test.YtcaoelihmkbedaaW9c
import Derived.Test.YtcaoelihmkbedaaLaw4
namespace Go.Proofs.Ytcaoelihmkbedaa
open Go.RowKit
def resGraphOfIntervals (X0 Y0 : List Int) : List Int := goiRows X0 Y0
def numGraphOfIntervals (X0 Y0 : List Int) : Int := goiNum X0 Y0
def flagGraphOfIntervals (X0 Y0 : List Int) : Bool := isModel X0 Y0
theorem resGraphOfIntervals_len (X0 Y0 : List Int) : (resGraphOfIntervals X0 Y0).length ≤ 1048576 := by
  rw [resGraphOfIntervals]; have := goiRows_len X0 Y0; omega
theorem specGraphOfIntervals_law {A0 : Option Addr} {n0 c0 : Nat} {X0 : List Int} {B0 : Option Addr} {m0 d0 : Nat} {Y0 : List Int} {w : World} (hx0 : RI w A0 n0 X0) (hy0 : RI w B0 m0 Y0) (hn0 : n0 ≤ 1048576) (hm0 : m0 ≤ 1048576) (_fx0 : Fits X0) (_fy0 : Fits Y0) :
    Calls Try.prog 39 #[.agg #[.slice A0 n0 c0, .slice B0 m0 d0]] w (GivesGB (numGraphOfIntervals X0 Y0) (resGraphOfIntervals X0 Y0) (flagGraphOfIntervals X0 Y0) w) :=
  specGraphOfIntervals_any _ _ _ _ _ _ _ _ _ hx0 hy0 hn0 hm0
theorem implGraphOfIntervals_law {A0 : Option Addr} {n0 c0 : Nat} {X0 : List Int} {B0 : Option Addr} {m0 d0 : Nat} {Y0 : List Int} {w : World} (hx0 : RI w A0 n0 X0) (hy0 : RI w B0 m0 Y0) (hn0 : n0 ≤ 1048576) (hm0 : m0 ≤ 1048576) (_fx0 : Fits X0) (_fy0 : Fits Y0) :
    Calls Try.prog 41 #[.agg #[.slice A0 n0 c0, .slice B0 m0 d0]] w (GivesGB (numGraphOfIntervals X0 Y0) (resGraphOfIntervals X0 Y0) (flagGraphOfIntervals X0 Y0) w) :=
  implGraphOfIntervals_any _ _ _ _ _ _ _ _ _ hx0 hy0 hn0 hm0
end Go.Proofs.Ytcaoelihmkbedaa
