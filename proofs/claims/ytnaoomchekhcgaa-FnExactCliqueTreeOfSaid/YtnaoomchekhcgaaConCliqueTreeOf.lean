/- CliqueTreeOf: the contracts of the reference's and of the program's function, as the law asks them. -/
import Derived.Test.YtnaoomchekhcgaaW8l
import Derived.Test.YtnaoomchekhcgaaLaw4
namespace Go.Proofs.Ytnaoomchekhcgaa
open Go.RowKit
def resCliqueTreeOf (N0 : Int) (X0 : List Int) : List Int := (ctOf N0 X0).1
def resBCliqueTreeOf (N0 : Int) (X0 : List Int) : List Int := (ctOf N0 X0).2.1
def flagCliqueTreeOf (N0 : Int) (X0 : List Int) : Bool := (ctOf N0 X0).2.2
theorem resCliqueTreeOf_len (N0 : Int) (X0 : List Int) : (resCliqueTreeOf N0 X0).length ≤ 1048576 := by
  rw [resCliqueTreeOf]; have := (ctOf_len N0 X0).1; omega
theorem resBCliqueTreeOf_len (N0 : Int) (X0 : List Int) : (resBCliqueTreeOf N0 X0).length ≤ 1048576 := by
  rw [resBCliqueTreeOf]; have := (ctOf_len N0 X0).2; omega
theorem specCliqueTreeOf_law {N0 : Int} {A0 : Option Addr} {n0 c0 : Nat} {X0 : List Int} {w : World} (hx0 : RI w A0 n0 X0) (hn0 : n0 ≤ 1048576) (_fx0 : Fits X0) :
    Calls Try.prog 18 #[.agg #[.int .i64 N0, .slice A0 n0 c0]] w (GivesTB (resCliqueTreeOf N0 X0) (resBCliqueTreeOf N0 X0) (flagCliqueTreeOf N0 X0) w) :=
  specCliqueTreeOf_any _ _ _ _ _ _ hx0 (by omega)
theorem implCliqueTreeOf_law {N0 : Int} {A0 : Option Addr} {n0 c0 : Nat} {X0 : List Int} {w : World} (hx0 : RI w A0 n0 X0) (hn0 : n0 ≤ 1048576) (_fx0 : Fits X0) :
    Calls Try.prog 19 #[.agg #[.int .i64 N0, .slice A0 n0 c0]] w (GivesTB (resCliqueTreeOf N0 X0) (resBCliqueTreeOf N0 X0) (flagCliqueTreeOf N0 X0) w) :=
  implCliqueTreeOf_any _ _ _ _ _ _ hx0 (by omega)
end Go.Proofs.Ytnaoomchekhcgaa
