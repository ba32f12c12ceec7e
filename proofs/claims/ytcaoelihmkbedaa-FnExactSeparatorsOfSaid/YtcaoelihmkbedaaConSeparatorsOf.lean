/- SeparatorsOf: the contracts of the reference's and of the program's function, as the law asks them. -/
import Derived.Test.YtcaoelihmkbedaaW8e
import Derived.Test.YtcaoelihmkbedaaLaw3
namespace Go.Proofs.Ytcaoelihmkbedaa
open Go.RowKit
def resSeparatorsOf (N0 : Int) (X0 : List Int) : List Int := ints (sepsOf N0 X0)
theorem resSeparatorsOf_len {N0 : Int} {X0 : List Int} : (resSeparatorsOf N0 X0).length ≤ 1048576 := by
  rw [resSeparatorsOf, ints_len]
  rcases isGraph_cases N0 X0 with hg | ⟨k, Q, rfl, rfl, h⟩
  · rw [sepsOf_no hg]; simp
  · rw [sepsOf_ok h]; have := filtK_len (minSep Q k) (2 ^ k); have := pow_le7 h.le; omega
theorem specSeparatorsOf_law {N0 : Int} {A0 : Option Addr} {n0 c0 : Nat} {X0 : List Int} {w : World} (hx0 : RI w A0 n0 X0) (hn0 : n0 ≤ 1048576) (_fx0 : Fits X0) :
    Calls Try.prog 51 #[.agg #[.int .i64 N0, .slice A0 n0 c0]] w (GivesI (resSeparatorsOf N0 X0) w) :=
  specSeparatorsOf_any _ _ _ _ _ _ hx0 (by omega)
theorem implSeparatorsOf_law {N0 : Int} {A0 : Option Addr} {n0 c0 : Nat} {X0 : List Int} {w : World} (hx0 : RI w A0 n0 X0) (hn0 : n0 ≤ 1048576) (_fx0 : Fits X0) :
    Calls Try.prog 52 #[.agg #[.int .i64 N0, .slice A0 n0 c0]] w (GivesI (resSeparatorsOf N0 X0) w) :=
  implSeparatorsOf_any _ _ _ _ _ _ hx0 (by omega)
end Go.Proofs.Ytcaoelihmkbedaa
