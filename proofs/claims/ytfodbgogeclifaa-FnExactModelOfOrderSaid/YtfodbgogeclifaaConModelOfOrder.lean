/- ModelOfOrder: the contracts of the reference's and of the program's function, as the law asks them. -/
import Derived.Test.YtfodbgogeclifaaW10b
import Derived.Test.YtfodbgogeclifaaLaw4
namespace Go.Proofs.Ytfodbgogeclifaa
open Go.RowKit
def resModelOfOrder (X0 : List Int) (x1 : Int) : List Int := moL X0 x1
def resBModelOfOrder (X0 : List Int) (x1 : Int) : List Int := moR X0 x1
def flagModelOfOrder (X0 : List Int) (x1 : Int) : Bool := hasMo X0 x1
theorem resModelOfOrder_len (X0 : List Int) (x1 : Int) : (resModelOfOrder X0 x1).length ≤ 1048576 := by
  rw [resModelOfOrder]; have := moL_len X0 x1; omega
theorem resBModelOfOrder_len (X0 : List Int) (x1 : Int) : (resBModelOfOrder X0 x1).length ≤ 1048576 := by
  rw [resBModelOfOrder]; have := moL_len X0 x1; omega
theorem specModelOfOrder_law {A0 : Option Addr} {n0 c0 : Nat} {X0 : List Int} {x1 : Int} {w : World} (hx0 : RI w A0 n0 X0) (hn0 : n0 ≤ 1048576) (_hc0 : n0 ≤ c0) (_hd0 : c0 ≤ 1048576) (_fx0 : Fits X0) (_fi1 : -9223372036854775808 ≤ x1 ∧ x1 ≤ 9223372036854775807) :
    Calls Try.prog 15 #[.slice A0 n0 c0, .int .i64 x1] w (GivesTB (resModelOfOrder X0 x1) (resBModelOfOrder X0 x1) (flagModelOfOrder X0 x1) w) :=
  specModelOfOrder_any _ _ _ _ _ _ hx0 hn0
theorem implModelOfOrder_law {A0 : Option Addr} {n0 c0 : Nat} {X0 : List Int} {x1 : Int} {w : World} (hx0 : RI w A0 n0 X0) (hn0 : n0 ≤ 1048576) (_hc0 : n0 ≤ c0) (_hd0 : c0 ≤ 1048576) (_fx0 : Fits X0) (_fi1 : -9223372036854775808 ≤ x1 ∧ x1 ≤ 9223372036854775807) :
    Calls Try.prog 17 #[.slice A0 n0 c0, .int .i64 x1] w (GivesTB (resModelOfOrder X0 x1) (resBModelOfOrder X0 x1) (flagModelOfOrder X0 x1) w) :=
  implModelOfOrder_any _ _ _ _ _ _ hx0 hn0
end Go.Proofs.Ytfodbgogeclifaa
