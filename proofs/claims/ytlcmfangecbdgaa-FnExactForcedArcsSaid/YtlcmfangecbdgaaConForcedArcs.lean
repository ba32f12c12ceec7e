/- ForcedArcs: the contracts of the reference's and of the program's function, as the law asks them. -/
import Derived.Test.YtlcmfangecbdgaaW13n
import Derived.Test.YtlcmfangecbdgaaLaw5
namespace Go.Proofs.Ytlcmfangecbdgaa
open Go.RowKit
theorem sumL_row2 (l : List (Nat × Nat)) : sumL (l.map row2) = 2 * l.length := by
  induction l with
  | nil => rfl
  | cons p t ih => rw [List.map_cons, sumL, ih, List.length_cons]; show 2 + 2 * t.length = _; omega
def resForcedArcs (N0 : Int) (X0 : List Int) (x1 x2 : Int) : List (List Int) := (frcOf N0 X0 x1 x2).map row2
theorem resForcedArcs_len (N0 : Int) (X0 : List Int) (x1 x2 : Int) : sumL (resForcedArcs N0 X0 x1 x2) ≤ 1048576 ∧ (resForcedArcs N0 X0 x1 x2).length ≤ 1048576 := by
  have h := frcOf_len N0 X0 x1 x2
  unfold resForcedArcs
  rw [sumL_row2, List.length_map]
  omega
theorem specForcedArcs_law {N0 : Int} {A0 : Option Addr} {n0 c0 : Nat} {X0 : List Int} {x1 : Int} {x2 : Int} {w : World} (hx0 : RI w A0 n0 X0) (hn0 : n0 ≤ 1048576) (_fx0 : Fits X0) (_fi1 : -9223372036854775808 ≤ x1 ∧ x1 ≤ 9223372036854775807) (_fi2 : -9223372036854775808 ≤ x2 ∧ x2 ≤ 9223372036854775807) :
    Calls Try.prog 30 #[.agg #[.int .i64 N0, .slice A0 n0 c0], .int .i64 x1, .int .i64 x2] w (GivesS (resForcedArcs N0 X0 x1 x2) w) :=
  specForcedArcs_any _ _ _ _ _ _ _ _ hx0 (by omega)
theorem implForcedArcs_law {N0 : Int} {A0 : Option Addr} {n0 c0 : Nat} {X0 : List Int} {x1 : Int} {x2 : Int} {w : World} (hx0 : RI w A0 n0 X0) (hn0 : n0 ≤ 1048576) (_fx0 : Fits X0) (_fi1 : -9223372036854775808 ≤ x1 ∧ x1 ≤ 9223372036854775807) (_fi2 : -9223372036854775808 ≤ x2 ∧ x2 ≤ 9223372036854775807) :
    Calls Try.prog 31 #[.agg #[.int .i64 N0, .slice A0 n0 c0], .int .i64 x1, .int .i64 x2] w (GivesS (resForcedArcs N0 X0 x1 x2) w) :=
  implForcedArcs_any _ _ _ _ _ _ _ _ hx0 (by omega)
end Go.Proofs.Ytlcmfangecbdgaa
