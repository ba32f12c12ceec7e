/- IntervalObstacle: the contracts of the reference's and of the program's function, as the law asks them. -/
import Derived.Test.YtlcmfangecbdgaaW4r
import Derived.Test.YtlcmfangecbdgaaLaw4
namespace Go.Proofs.Ytlcmfangecbdgaa
open Go.RowKit
theorem holeOf_len {N : Int} {X : List Int} {r : List Nat} (h : holeOf N X = some r) : r.length ≤ 1048576 := by
  rcases isGraph_cases N X with hg | ⟨k, Q, rfl, rfl, hk⟩
  · rw [holeOf_no hg] at h; cases h
  · rw [holeOf_ok hk] at h
    have := holeK_len h
    have := hk.le
    omega
theorem ivObsOf_len {N : Int} {X : List Int} {r : List Nat} (h : ivObsOf N X = some r) : r.length ≤ 1048576 := by
  rcases hr : holeOf N X with _ | q
  · rw [ivObsOf, hr] at h
    have := tripOf_len (show tripOf N X = some r from h)
    omega
  · rw [ivObsOf, hr] at h
    obtain rfl : q = r := by simpa using h
    exact holeOf_len hr
def resIntervalObstacle (N0 : Int) (X0 : List Int) : List Int := optL (ivObsOf N0 X0)
def flagIntervalObstacle (N0 : Int) (X0 : List Int) : Bool := (ivObsOf N0 X0).isSome
theorem resIntervalObstacle_len (N0 : Int) (X0 : List Int) : (resIntervalObstacle N0 X0).length ≤ 1048576 := by
  rw [resIntervalObstacle, optL, ints_len]
  rcases hw : ivObsOf N0 X0 with _ | r
  · simp
  · exact ivObsOf_len hw
theorem specIntervalObstacle_law {N0 : Int} {A0 : Option Addr} {n0 c0 : Nat} {X0 : List Int} {w : World} (hx0 : RI w A0 n0 X0) (hn0 : n0 ≤ 1048576) (_fx0 : Fits X0) :
    Calls Try.prog 45 #[.agg #[.int .i64 N0, .slice A0 n0 c0]] w (GivesIB (resIntervalObstacle N0 X0) (flagIntervalObstacle N0 X0) w) :=
  specIntervalObstacle_any _ _ _ _ _ _ hx0 (by omega)
theorem implIntervalObstacle_law {N0 : Int} {A0 : Option Addr} {n0 c0 : Nat} {X0 : List Int} {w : World} (hx0 : RI w A0 n0 X0) (hn0 : n0 ≤ 1048576) (_fx0 : Fits X0) :
    Calls Try.prog 46 #[.agg #[.int .i64 N0, .slice A0 n0 c0]] w (GivesIB (resIntervalObstacle N0 X0) (flagIntervalObstacle N0 X0) w) :=
  implIntervalObstacle_any _ _ _ _ _ _ hx0 (by omega)
end Go.Proofs.Ytlcmfangecbdgaa
