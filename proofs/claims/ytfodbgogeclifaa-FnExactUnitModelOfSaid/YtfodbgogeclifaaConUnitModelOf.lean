/- UnitModelOf: the contracts of the reference's and of the program's function, as the law asks them. -/
import Derived.Test.YtfodbgogeclifaaW12x
import Derived.Test.YtfodbgogeclifaaLaw4
namespace Go.Proofs.Ytfodbgogeclifaa
open Go.RowKit
def resUnitModelOf (N0 : Int) (X0 : List Int) : List Int := (unitOf N0 X0).1
def resBUnitModelOf (N0 : Int) (X0 : List Int) : List Int := (unitOf N0 X0).2.1
def flagUnitModelOf (N0 : Int) (X0 : List Int) : Bool := (unitOf N0 X0).2.2
theorem resUnitModelOf_len (N0 : Int) (X0 : List Int) : (resUnitModelOf N0 X0).length ≤ 1048576 := by
  rw [resUnitModelOf]
  rcases hu : umbOf N0 X0 with _ | o
  · rw [unitOf_none hu]; simp
  · obtain ⟨n, Q, rfl, rfl, h, _⟩ := umbOf_spec hu
    rw [unitOf_some hu]
    have := h.le
    show (ints (unitL Q o n)).length ≤ 1048576
    rw [ints_len, unitL_len]; omega
theorem resBUnitModelOf_len (N0 : Int) (X0 : List Int) : (resBUnitModelOf N0 X0).length ≤ 1048576 := by
  rw [resBUnitModelOf]
  rcases hu : umbOf N0 X0 with _ | o
  · rw [unitOf_none hu]; simp
  · obtain ⟨n, Q, rfl, rfl, h, _⟩ := umbOf_spec hu
    rw [unitOf_some hu]
    have := h.le
    show (ints (unitR Q o n)).length ≤ 1048576
    rw [ints_len, unitR_len]; omega
theorem specUnitModelOf_law {N0 : Int} {A0 : Option Addr} {n0 c0 : Nat} {X0 : List Int} {w : World} (hx0 : RI w A0 n0 X0) (hn0 : n0 ≤ 1048576) (_fx0 : Fits X0) :
    Calls Try.prog 53 #[.agg #[.int .i64 N0, .slice A0 n0 c0]] w (GivesTB (resUnitModelOf N0 X0) (resBUnitModelOf N0 X0) (flagUnitModelOf N0 X0) w) :=
  specUnitModelOf_any _ _ _ _ _ _ hx0 (by omega)
theorem implUnitModelOf_law {N0 : Int} {A0 : Option Addr} {n0 c0 : Nat} {X0 : List Int} {w : World} (hx0 : RI w A0 n0 X0) (hn0 : n0 ≤ 1048576) (_fx0 : Fits X0) :
    Calls Try.prog 54 #[.agg #[.int .i64 N0, .slice A0 n0 c0]] w (GivesTB (resUnitModelOf N0 X0) (resBUnitModelOf N0 X0) (flagUnitModelOf N0 X0) w) :=
  implUnitModelOf_any _ _ _ _ _ _ hx0 (by omega)
end Go.Proofs.Ytfodbgogeclifaa
