/- MaximalCliques: the contracts of the reference's and of the program's function, as the law asks them. -/
import Derived.Test.YtcaoelihmkbedaaW7f
import Derived.Test.YtcaoelihmkbedaaLaw3
namespace Go.Proofs.Ytcaoelihmkbedaa
open Go.RowKit
def resMaximalCliques (N0 : Int) (X0 : List Int) : List Int := ints (maxCliquesOf N0 X0)
theorem resMaximalCliques_len {N0 : Int} {X0 : List Int} : (resMaximalCliques N0 X0).length ≤ 1048576 := by
  rw [resMaximalCliques, ints_len]
  rcases isGraph_cases N0 X0 with hg | ⟨k, Q, rfl, rfl, h⟩
  · rw [maxCliquesOf_no hg]; simp
  · rw [maxCliquesOf_ok h]; have := maxCliques_len Q h.le; omega
theorem specMaximalCliques_law {N0 : Int} {A0 : Option Addr} {n0 c0 : Nat} {X0 : List Int} {w : World} (hx0 : RI w A0 n0 X0) (hn0 : n0 ≤ 1048576) (_fx0 : Fits X0) :
    Calls Try.prog 33 #[.agg #[.int .i64 N0, .slice A0 n0 c0]] w (GivesI (resMaximalCliques N0 X0) w) :=
  specMaximalCliques_any _ _ _ _ _ _ hx0 (by omega)
theorem implMaximalCliques_law {N0 : Int} {A0 : Option Addr} {n0 c0 : Nat} {X0 : List Int} {w : World} (hx0 : RI w A0 n0 X0) (hn0 : n0 ≤ 1048576) (_fx0 : Fits X0) :
    Calls Try.prog 34 #[.agg #[.int .i64 N0, .slice A0 n0 c0]] w (GivesI (resMaximalCliques N0 X0) w) :=
  implMaximalCliques_any _ _ _ _ _ _ hx0 (by omega)
end Go.Proofs.Ytcaoelihmkbedaa
