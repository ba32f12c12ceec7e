/- ChordalColoring: the contracts of the reference's and of the program's function, as the law asks them. -/
import Derived.Test.YtfodbgogeclifaaW6c
import Derived.Test.YtfodbgogeclifaaLaw4
namespace Go.Proofs.Ytfodbgogeclifaa
open Go.RowKit
def resChordalColoring (N0 : Int) (X0 : List Int) : List Int := chordL N0 X0
def flagChordalColoring (N0 : Int) (X0 : List Int) : Bool := (elimOf N0 X0).isSome
theorem resChordalColoring_len (N0 : Int) (X0 : List Int) : (resChordalColoring N0 X0).length ≤ 1048576 := by
  rw [resChordalColoring, chordL]
  rcases he : elimOf N0 X0 with _ | o
  · simp
  · rcases isOrder_cases N0 X0 (ints o).reverse with hg | ⟨hg, k, Q, o', rfl, rfl, hr, h, _, hol⟩
    · show (colOf N0 X0 (ints o).reverse).length ≤ 1048576
      rw [colOf_no hg]; simp
    · show (colOf _ _ (ints o).reverse).length ≤ 1048576
      rw [hr] at hg ⊢
      rw [colOf_ok hg, ints_len, colK_len, hol]; have := h.le; omega
theorem specChordalColoring_law {N0 : Int} {A0 : Option Addr} {n0 c0 : Nat} {X0 : List Int} {w : World} (hx0 : RI w A0 n0 X0) (hn0 : n0 ≤ 1048576) (_fx0 : Fits X0) :
    Calls Try.prog 51 #[.agg #[.int .i64 N0, .slice A0 n0 c0]] w (GivesIB (resChordalColoring N0 X0) (flagChordalColoring N0 X0) w) :=
  specChordalColoring_any _ _ _ _ _ _ hx0 (by omega)
theorem implChordalColoring_law {N0 : Int} {A0 : Option Addr} {n0 c0 : Nat} {X0 : List Int} {w : World} (hx0 : RI w A0 n0 X0) (hn0 : n0 ≤ 1048576) (_fx0 : Fits X0) :
    Calls Try.prog 52 #[.agg #[.int .i64 N0, .slice A0 n0 c0]] w (GivesIB (resChordalColoring N0 X0) (flagChordalColoring N0 X0) w) :=
  implChordalColoring_any _ _ _ _ _ _ hx0 (by omega)
end Go.Proofs.Ytfodbgogeclifaa
