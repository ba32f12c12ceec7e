/- ColorByOrder: the contracts of the reference's and of the program's function, as the law asks them. -/
import Derived.Test.YtfodbgogeclifaaW7d
import Derived.Test.YtfodbgogeclifaaLaw4
namespace Go.Proofs.Ytfodbgogeclifaa
open Go.RowKit
def resColorByOrder (N0 : Int) (X0 X1 : List Int) : List Int := colOf N0 X0 X1
theorem resColorByOrder_len (N0 : Int) (X0 X1 : List Int) : (resColorByOrder N0 X0 X1).length ≤ 1048576 := by
  rw [resColorByOrder]
  rcases isOrder_cases N0 X0 X1 with hg | ⟨hg, k, Q, o, rfl, rfl, rfl, h, _, hol⟩
  · rw [colOf_no hg]; simp
  · rw [colOf_ok hg, ints_len, colK_len, hol]; have := h.le; omega
theorem specColorByOrder_law {N0 : Int} {A0 : Option Addr} {n0 c0 : Nat} {X0 : List Int} {A1 : Option Addr} {n1 c1 : Nat} {X1 : List Int} {w : World} (hx0 : RI w A0 n0 X0) (hn0 : n0 ≤ 1048576) (_fx0 : Fits X0) (hx1 : RI w A1 n1 X1) (hn1 : n1 ≤ 1048576) (hc1 : n1 ≤ c1) (hd1 : c1 ≤ 1048576) (_fx1 : Fits X1) :
    Calls Try.prog 37 #[.agg #[.int .i64 N0, .slice A0 n0 c0], .slice A1 n1 c1] w (GivesI (resColorByOrder N0 X0 X1) w) :=
  specColorByOrder_any _ _ _ _ _ _ _ _ _ _ hx0 hx1 (by omega) (by omega)
theorem implColorByOrder_law {N0 : Int} {A0 : Option Addr} {n0 c0 : Nat} {X0 : List Int} {A1 : Option Addr} {n1 c1 : Nat} {X1 : List Int} {w : World} (hx0 : RI w A0 n0 X0) (hn0 : n0 ≤ 1048576) (_fx0 : Fits X0) (hx1 : RI w A1 n1 X1) (hn1 : n1 ≤ 1048576) (hc1 : n1 ≤ c1) (hd1 : c1 ≤ 1048576) (_fx1 : Fits X1) :
    Calls Try.prog 38 #[.agg #[.int .i64 N0, .slice A0 n0 c0], .slice A1 n1 c1] w (GivesI (resColorByOrder N0 X0 X1) w) :=
  implColorByOrder_any _ _ _ _ _ _ _ _ _ _ hx0 hx1 (by omega) (by omega) hc1 (by omega)
end Go.Proofs.Ytfodbgogeclifaa
