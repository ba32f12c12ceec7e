/- ProperObstacle: the contracts of the reference's and of the program's function, as the law asks them. -/
import Derived.Test.YtlcmfangecbdgaaW4r
import Derived.Test.YtlcmfangecbdgaaLaw4
namespace Go.Proofs.Ytlcmfangecbdgaa
open Go.RowKit
theorem holeOf_len {N : Int} {X : List Int} {r : List Nat} (h : holeOf N X = some r) : r.length ≤ 1048576 := by
  rcases isGraph_cases N X with hg | ⟨k, Q, rfl, rfl, hk⟩
  · rw [holeOf_no hg] at h; cases h
  · rw [holeOf_ok hk] at h
    have := holeK_len h
    have := hk.le
    omega
theorem clawOf_len {N : Int} {X : List Int} {r : List Nat} (h : clawOf N X = some r) : r.length ≤ 1048576 := by
  rcases isGraph_cases N X with hg | ⟨k, Q, rfl, rfl, hk⟩
  · rw [clawOf_no hg] at h; cases h
  · rw [clawOf_ok hk] at h
    have := (srch_spec h).1
    have e : ([] : List Nat).length = 0 := rfl
    omega
theorem prObsOf_len {N : Int} {X : List Int} {r : List Nat} (h : prObsOf N X = some r) : r.length ≤ 1048576 := by
  rcases hc : clawOf N X with _ | q
  · rw [prObsOf, hc] at h
    have h2 : ivObsOf N X = some r := h
    rcases hr : holeOf N X with _ | q
    · rw [ivObsOf, hr] at h2
      have := tripOf_len (show tripOf N X = some r from h2)
      omega
    · rw [ivObsOf, hr] at h2
      obtain rfl : q = r := by simpa using h2
      exact holeOf_len hr
  · rw [prObsOf, hc] at h
    obtain rfl : q = r := by simpa using h
    exact clawOf_len hc
def resProperObstacle (N0 : Int) (X0 : List Int) : List Int := optL (prObsOf N0 X0)
def flagProperObstacle (N0 : Int) (X0 : List Int) : Bool := (prObsOf N0 X0).isSome
theorem resProperObstacle_len (N0 : Int) (X0 : List Int) : (resProperObstacle N0 X0).length ≤ 1048576 := by
  rw [resProperObstacle, optL, ints_len]
  rcases hw : prObsOf N0 X0 with _ | r
  · simp
  · exact prObsOf_len hw
theorem specProperObstacle_law {N0 : Int} {A0 : Option Addr} {n0 c0 : Nat} {X0 : List Int} {w : World} (hx0 : RI w A0 n0 X0) (hn0 : n0 ≤ 1048576) (_fx0 : Fits X0) :
    Calls Try.prog 47 #[.agg #[.int .i64 N0, .slice A0 n0 c0]] w (GivesIB (resProperObstacle N0 X0) (flagProperObstacle N0 X0) w) :=
  specProperObstacle_any _ _ _ _ _ _ hx0 (by omega)
theorem implProperObstacle_law {N0 : Int} {A0 : Option Addr} {n0 c0 : Nat} {X0 : List Int} {w : World} (hx0 : RI w A0 n0 X0) (hn0 : n0 ≤ 1048576) (_fx0 : Fits X0) :
    Calls Try.prog 48 #[.agg #[.int .i64 N0, .slice A0 n0 c0]] w (GivesIB (resProperObstacle N0 X0) (flagProperObstacle N0 X0) w) :=
  implProperObstacle_any _ _ _ _ _ _ hx0 (by omega)
end Go.Proofs.Ytlcmfangecbdgaa
