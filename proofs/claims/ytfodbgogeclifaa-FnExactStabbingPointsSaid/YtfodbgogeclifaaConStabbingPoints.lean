/- StabbingPoints: the contracts of the reference's and of the program's function, as the law asks them. -/
import Derived.Test.YtfodbgogeclifaaW9t
import Derived.Test.YtfodbgogeclifaaLaw4
namespace Go.Proofs.Ytfodbgogeclifaa
open Go.RowKit
def resStabbingPoints (X0 Y0 : List Int) : List Int := stabOf X0 Y0
def flagStabbingPoints (X0 Y0 : List Int) : Bool := isModel X0 Y0
theorem resStabbingPoints_len (X0 Y0 : List Int) : (resStabbingPoints X0 Y0).length ≤ 1048576 := by
  rw [resStabbingPoints]; have := stabOf_len X0 Y0; omega
theorem specStabbingPoints_law {A0 : Option Addr} {n0 c0 : Nat} {X0 : List Int} {B0 : Option Addr} {m0 d0 : Nat} {Y0 : List Int} {w : World} (hx0 : RI w A0 n0 X0) (hy0 : RI w B0 m0 Y0) (hn0 : n0 ≤ 1048576) (hm0 : m0 ≤ 1048576) (_fx0 : Fits X0) (_fy0 : Fits Y0) :
    Calls Try.prog 27 #[.agg #[.slice A0 n0 c0, .slice B0 m0 d0]] w (GivesIB (resStabbingPoints X0 Y0) (flagStabbingPoints X0 Y0) w) :=
  specStabbingPoints_any _ _ _ _ _ _ _ _ _ hx0 hy0 hn0 hm0
theorem implStabbingPoints_law {A0 : Option Addr} {n0 c0 : Nat} {X0 : List Int} {B0 : Option Addr} {m0 d0 : Nat} {Y0 : List Int} {w : World} (hx0 : RI w A0 n0 X0) (hy0 : RI w B0 m0 Y0) (hn0 : n0 ≤ 1048576) (hm0 : m0 ≤ 1048576) (_fx0 : Fits X0) (_fy0 : Fits Y0) :
    Calls Try.prog 28 #[.agg #[.slice A0 n0 c0, .slice B0 m0 d0]] w (GivesIB (resStabbingPoints X0 Y0) (flagStabbingPoints X0 Y0) w) :=
  implStabbingPoints_any _ _ _ _ _ _ _ _ _ hx0 hy0 hn0 hm0
end Go.Proofs.Ytfodbgogeclifaa
