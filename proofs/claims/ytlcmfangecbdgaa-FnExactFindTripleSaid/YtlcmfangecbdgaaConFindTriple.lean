/- FindTriple: the contracts of the reference's and of the program's function, as the law asks them. -/
import Derived.Test.YtlcmfangecbdgaaW11e
import Derived.Test.YtlcmfangecbdgaaLaw4
namespace Go.Proofs.Ytlcmfangecbdgaa
open Go.RowKit
def resFindTriple (N0 : Int) (X0 : List Int) : List Int := optL (tripOf N0 X0)
def flagFindTriple (N0 : Int) (X0 : List Int) : Bool := (tripOf N0 X0).isSome
theorem resFindTriple_len (N0 : Int) (X0 : List Int) : (resFindTriple N0 X0).length ≤ 1048576 := by
  rw [resFindTriple, optL, ints_len]
  rcases hw : tripOf N0 X0 with _ | r
  · simp
  · have := tripOf_len hw
    show r.length ≤ 1048576
    omega
theorem specFindTriple_law {N0 : Int} {A0 : Option Addr} {n0 c0 : Nat} {X0 : List Int} {w : World} (hx0 : RI w A0 n0 X0) (hn0 : n0 ≤ 1048576) (_fx0 : Fits X0) :
    Calls Try.prog 34 #[.agg #[.int .i64 N0, .slice A0 n0 c0]] w (GivesIB (resFindTriple N0 X0) (flagFindTriple N0 X0) w) :=
  specFindTriple_any _ _ _ _ _ _ hx0 (by omega)
theorem implFindTriple_law {N0 : Int} {A0 : Option Addr} {n0 c0 : Nat} {X0 : List Int} {w : World} (hx0 : RI w A0 n0 X0) (hn0 : n0 ≤ 1048576) (_fx0 : Fits X0) :
    Calls Try.prog 35 #[.agg #[.int .i64 N0, .slice A0 n0 c0]] w (GivesIB (resFindTriple N0 X0) (flagFindTriple N0 X0) w) :=
  implFindTriple_any _ _ _ _ _ _ hx0 (by omega)
end Go.Proofs.Ytlcmfangecbdgaa
