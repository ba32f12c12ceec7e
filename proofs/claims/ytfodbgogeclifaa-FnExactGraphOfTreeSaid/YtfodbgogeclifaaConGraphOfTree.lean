/- GraphOfTree: the contracts of the reference's and of the program's function, as the law asks them. -/
import Derived.Test.YtfodbgogeclifaaW8u
import Derived.Test.YtfodbgogeclifaaLaw4
namespace Go.Proofs.Ytfodbgogeclifaa
open Go.RowKit
def resGraphOfTree (X0 Y0 : List Int) (x1 : Int) : List Int := goTRows X0 Y0 x1
def numGraphOfTree (X0 Y0 : List Int) (x1 : Int) : Int := goTNum X0 Y0 x1
def flagGraphOfTree (X0 Y0 : List Int) (x1 : Int) : Bool := hasGoT X0 Y0 x1
theorem resGraphOfTree_len (X0 Y0 : List Int) (x1 : Int) : (resGraphOfTree X0 Y0 x1).length ≤ 1048576 := by
  rw [resGraphOfTree]; have := goTRows_len X0 Y0 x1; omega
theorem specGraphOfTree_law {A0 : Option Addr} {n0 c0 : Nat} {X0 : List Int} {B0 : Option Addr} {m0 d0 : Nat} {Y0 : List Int} {x1 : Int} {w : World} (hx0 : RI w A0 n0 X0) (hy0 : RI w B0 m0 Y0) (hn0 : n0 ≤ 1048576) (hm0 : m0 ≤ 1048576) (_fx0 : Fits X0) (_fy0 : Fits Y0) (_fi1 : -9223372036854775808 ≤ x1 ∧ x1 ≤ 9223372036854775807) :
    Calls Try.prog 43 #[.agg #[.slice A0 n0 c0, .slice B0 m0 d0], .int .i64 x1] w (GivesGB (numGraphOfTree X0 Y0 x1) (resGraphOfTree X0 Y0 x1) (flagGraphOfTree X0 Y0 x1) w) :=
  specGraphOfTree_any _ _ _ _ _ _ _ _ _ _ hx0 hy0 hn0 hm0
theorem implGraphOfTree_law {A0 : Option Addr} {n0 c0 : Nat} {X0 : List Int} {B0 : Option Addr} {m0 d0 : Nat} {Y0 : List Int} {x1 : Int} {w : World} (hx0 : RI w A0 n0 X0) (hy0 : RI w B0 m0 Y0) (hn0 : n0 ≤ 1048576) (hm0 : m0 ≤ 1048576) (_fx0 : Fits X0) (_fy0 : Fits Y0) (_fi1 : -9223372036854775808 ≤ x1 ∧ x1 ≤ 9223372036854775807) :
    Calls Try.prog 45 #[.agg #[.slice A0 n0 c0, .slice B0 m0 d0], .int .i64 x1] w (GivesGB (numGraphOfTree X0 Y0 x1) (resGraphOfTree X0 Y0 x1) (flagGraphOfTree X0 Y0 x1) w) :=
  implGraphOfTree_any _ _ _ _ _ _ _ _ _ _ hx0 hy0 hn0 hm0
end Go.Proofs.Ytfodbgogeclifaa
