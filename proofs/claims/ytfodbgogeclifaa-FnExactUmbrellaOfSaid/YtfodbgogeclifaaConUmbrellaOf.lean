/- UmbrellaOf: the contracts of the reference's and of the program's function, as the law asks them. -/
import Derived.Test.YtfodbgogeclifaaW12i
import Derived.Test.YtfodbgogeclifaaLaw4
namespace Go.Proofs.Ytfodbgogeclifaa
open Go.RowKit
def resUmbrellaOf (N0 : Int) (X0 : List Int) : List Int := optL (umbOf N0 X0)
def flagUmbrellaOf (N0 : Int) (X0 : List Int) : Bool := (umbOf N0 X0).isSome
theorem resUmbrellaOf_len (N0 : Int) (X0 : List Int) : (resUmbrellaOf N0 X0).length ≤ 1048576 := by
  rw [resUmbrellaOf, optL, ints_len]
  rcases isGraph_cases N0 X0 with hg | ⟨k, Q, rfl, rfl, h⟩
  · rw [umbOf_no hg]; simp
  · rw [umbOf_ok h]
    rcases hs : srch (umb Q) yes k k [] with _ | r
    · simp
    · have h1 := (srch_spec hs).1
      have h2 : ([] : List Nat).length = 0 := rfl
      rw [h2] at h1
      have := h.le
      show r.length ≤ 1048576
      omega
theorem specUmbrellaOf_law {N0 : Int} {A0 : Option Addr} {n0 c0 : Nat} {X0 : List Int} {w : World} (hx0 : RI w A0 n0 X0) (hn0 : n0 ≤ 1048576) (_fx0 : Fits X0) :
    Calls Try.prog 49 #[.agg #[.int .i64 N0, .slice A0 n0 c0]] w (GivesIB (resUmbrellaOf N0 X0) (flagUmbrellaOf N0 X0) w) :=
  specUmbrellaOf_any _ _ _ _ _ _ hx0 (by omega)
theorem implUmbrellaOf_law {N0 : Int} {A0 : Option Addr} {n0 c0 : Nat} {X0 : List Int} {w : World} (hx0 : RI w A0 n0 X0) (hn0 : n0 ≤ 1048576) (_fx0 : Fits X0) :
    Calls Try.prog 50 #[.agg #[.int .i64 N0, .slice A0 n0 c0]] w (GivesIB (resUmbrellaOf N0 X0) (flagUmbrellaOf N0 X0) w) :=
  implUmbrellaOf_any _ _ _ _ _ _ hx0 (by omega)
end Go.Proofs.Ytfodbgogeclifaa
