/- HeightsOf: the contracts of the reference's and of the program's function, as the law asks them. -/
import Derived.Test.YtcaoelihmkbedaaW13h
import Derived.Test.YtcaoelihmkbedaaLaw4
namespace Go.Proofs.Ytcaoelihmkbedaa
open Go.RowKit
def resHeightsOf (N0 : Int) (X0 X1 : List Int) : List Int := isHeights N0 X0 X1
theorem resHeightsOf_len (N0 : Int) (X0 X1 : List Int) : (resHeightsOf N0 X0 X1).length ≤ 1048576 := by
  rw [resHeightsOf]
  rcases isTrans_cases N0 X0 X1 with hg | ⟨hg, k, Q, R, rfl, rfl, rfl, h, hRl, _⟩
  · rw [isHeights_no hg]; simp
  · rw [isHeights_ok hg, ints_len, heights, ht4_len]; have := h.le; omega
theorem specHeightsOf_law {N0 : Int} {A0 : Option Addr} {n0 c0 : Nat} {X0 : List Int} {A1 : Option Addr} {n1 c1 : Nat} {X1 : List Int} {w : World} (hx0 : RI w A0 n0 X0) (hn0 : n0 ≤ 1048576) (_fx0 : Fits X0) (hx1 : RI w A1 n1 X1) (hn1 : n1 ≤ 1048576) (_fx1 : Fits X1) :
    Calls Try.prog 53 #[.agg #[.int .i64 N0, .slice A0 n0 c0], .agg #[.slice A1 n1 c1]] w (GivesI (resHeightsOf N0 X0 X1) w) :=
  specHeightsOf_any _ _ _ _ _ _ _ _ _ _ hx0 hx1 (by omega) (by omega)
theorem implHeightsOf_law {N0 : Int} {A0 : Option Addr} {n0 c0 : Nat} {X0 : List Int} {A1 : Option Addr} {n1 c1 : Nat} {X1 : List Int} {w : World} (hx0 : RI w A0 n0 X0) (hn0 : n0 ≤ 1048576) (_fx0 : Fits X0) (hx1 : RI w A1 n1 X1) (hn1 : n1 ≤ 1048576) (fx1 : Fits X1) :
    Calls Try.prog 54 #[.agg #[.int .i64 N0, .slice A0 n0 c0], .agg #[.slice A1 n1 c1]] w (GivesI (resHeightsOf N0 X0 X1) w) :=
  implHeightsOf_any _ _ _ _ _ _ _ _ _ _ hx0 hx1 (by omega) (by omega) fx1
end Go.Proofs.Ytcaoelihmkbedaa
