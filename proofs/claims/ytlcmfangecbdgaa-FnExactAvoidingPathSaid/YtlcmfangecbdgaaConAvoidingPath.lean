/- AvoidingPath: the contracts of the reference's and of the program's function, as the law asks them. -/
import Derived.Test.YtlcmfangecbdgaaW11c
import Derived.Test.YtlcmfangecbdgaaLaw4
namespace Go.Proofs.Ytlcmfangecbdgaa
open Go.RowKit
def resAvoidingPath (N0 : Int) (X0 : List Int) (x1 x2 x3 : Int) : List Int := optL (avoidOf N0 X0 x1 x2 x3)
def flagAvoidingPath (N0 : Int) (X0 : List Int) (x1 x2 x3 : Int) : Bool := (avoidOf N0 X0 x1 x2 x3).isSome
theorem resAvoidingPath_len (N0 : Int) (X0 : List Int) (x1 x2 x3 : Int) : (resAvoidingPath N0 X0 x1 x2 x3).length ≤ 1048576 := by
  rw [resAvoidingPath, optL, ints_len]
  rcases avoid_cases N0 X0 x1 x2 x3 with ⟨h0, _⟩ | ⟨n, i, j, k, Q, rfl, rfl, rfl, rfl, rfl, h, hi, hj, hk⟩
  · rw [h0]; simp
  · rw [avoidOf_ok h hi hj hk]
    rcases hw : wayOf Q n (awayS Q n k) i j with _ | r
    · simp
    · have := (wayOf_len hw h.pos).2
      have := h.le
      show r.length ≤ 1048576
      omega
theorem specAvoidingPath_law {N0 : Int} {A0 : Option Addr} {n0 c0 : Nat} {X0 : List Int} {x1 : Int} {x2 : Int} {x3 : Int} {w : World} (hx0 : RI w A0 n0 X0) (hn0 : n0 ≤ 1048576) (_fx0 : Fits X0) (_fi1 : -9223372036854775808 ≤ x1 ∧ x1 ≤ 9223372036854775807) (_fi2 : -9223372036854775808 ≤ x2 ∧ x2 ≤ 9223372036854775807) (_fi3 : -9223372036854775808 ≤ x3 ∧ x3 ≤ 9223372036854775807) :
    Calls Try.prog 19 #[.agg #[.int .i64 N0, .slice A0 n0 c0], .int .i64 x1, .int .i64 x2, .int .i64 x3] w (GivesIB (resAvoidingPath N0 X0 x1 x2 x3) (flagAvoidingPath N0 X0 x1 x2 x3) w) :=
  specAvoidingPath_any _ _ _ _ _ _ _ _ _ hx0 (by omega)
theorem implAvoidingPath_law {N0 : Int} {A0 : Option Addr} {n0 c0 : Nat} {X0 : List Int} {x1 : Int} {x2 : Int} {x3 : Int} {w : World} (hx0 : RI w A0 n0 X0) (hn0 : n0 ≤ 1048576) (_fx0 : Fits X0) (_fi1 : -9223372036854775808 ≤ x1 ∧ x1 ≤ 9223372036854775807) (_fi2 : -9223372036854775808 ≤ x2 ∧ x2 ≤ 9223372036854775807) (_fi3 : -9223372036854775808 ≤ x3 ∧ x3 ≤ 9223372036854775807) :
    Calls Try.prog 20 #[.agg #[.int .i64 N0, .slice A0 n0 c0], .int .i64 x1, .int .i64 x2, .int .i64 x3] w (GivesIB (resAvoidingPath N0 X0 x1 x2 x3) (flagAvoidingPath N0 X0 x1 x2 x3) w) :=
  implAvoidingPath_any _ _ _ _ _ _ _ _ _ hx0 (by omega)
end Go.Proofs.Ytlcmfangecbdgaa
