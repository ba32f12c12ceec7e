/- IntervalModelOf: the contracts of the reference's and of the program's function, as the law asks them. -/
import Derived.Test.YtnaoomchekhcgaaW10j
import Derived.Test.YtnaoomchekhcgaaLaw4
namespace Go.Proofs.Ytnaoomchekhcgaa
open Go.RowKit
def resIntervalModelOf (N0 : Int) (X0 : List Int) : List Int := (ivmOf N0 X0).1
def resBIntervalModelOf (N0 : Int) (X0 : List Int) : List Int := (ivmOf N0 X0).2.1
def flagIntervalModelOf (N0 : Int) (X0 : List Int) : Bool := (ivmOf N0 X0).2.2
theorem resIntervalModelOf_len (N0 : Int) (X0 : List Int) : (resIntervalModelOf N0 X0).length ≤ 1048576 := by
  rw [resIntervalModelOf]
  rcases hw : ordOf N0 X0 with _ | q
  · rw [ivmOf_none hw]; simp
  · rw [ivmOf_some hw]; have := moL_len (ints q) N0; show (moL (ints q) N0).length ≤ 1048576; omega
theorem resBIntervalModelOf_len (N0 : Int) (X0 : List Int) : (resBIntervalModelOf N0 X0).length ≤ 1048576 := by
  rw [resBIntervalModelOf]
  rcases hw : ordOf N0 X0 with _ | q
  · rw [ivmOf_none hw]; simp
  · rw [ivmOf_some hw]; have := moL_len (ints q) N0; show (moR (ints q) N0).length ≤ 1048576; omega
theorem specIntervalModelOf_law {N0 : Int} {A0 : Option Addr} {n0 c0 : Nat} {X0 : List Int} {w : World} (hx0 : RI w A0 n0 X0) (hn0 : n0 ≤ 1048576) (_fx0 : Fits X0) :
    Calls Try.prog 29 #[.agg #[.int .i64 N0, .slice A0 n0 c0]] w (GivesTB (resIntervalModelOf N0 X0) (resBIntervalModelOf N0 X0) (flagIntervalModelOf N0 X0) w) :=
  specIntervalModelOf_any _ _ _ _ _ _ hx0 (by omega)
theorem implIntervalModelOf_law {N0 : Int} {A0 : Option Addr} {n0 c0 : Nat} {X0 : List Int} {w : World} (hx0 : RI w A0 n0 X0) (hn0 : n0 ≤ 1048576) (_fx0 : Fits X0) :
    Calls Try.prog 30 #[.agg #[.int .i64 N0, .slice A0 n0 c0]] w (GivesTB (resIntervalModelOf N0 X0) (resBIntervalModelOf N0 X0) (flagIntervalModelOf N0 X0) w) :=
  implIntervalModelOf_any _ _ _ _ _ _ hx0 (by omega)
end Go.Proofs.Ytnaoomchekhcgaa
