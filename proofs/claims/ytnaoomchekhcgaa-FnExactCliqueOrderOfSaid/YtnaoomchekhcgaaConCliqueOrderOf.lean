/- CliqueOrderOf: the contracts of the reference's and of the program's function, as the law asks them. -/
import Derived.Test.YtnaoomchekhcgaaW10h
import Derived.Test.YtnaoomchekhcgaaLaw4
namespace Go.Proofs.Ytnaoomchekhcgaa
open Go.RowKit
theorem ordOf_len {N : Int} {X : List Int} {r : List Nat} (h : ordOf N X = some r) : r.length ≤ 128 := by
  rcases Bool.eq_false_or_eq_true (elimOf N X).isSome with e | e
  · have hok := cliques_ok e
    rw [ordOf, cliqOrds_yes e] at h
    have := (ords_spec hok.1 (List.mem_of_head? h) (by simp)).1
    rw [this]
    simpa using hok.2.2
  · rw [ordOf, cliqOrds_no e] at h; cases h
def resCliqueOrderOf (N0 : Int) (X0 : List Int) : List Int := optL (ordOf N0 X0)
def flagCliqueOrderOf (N0 : Int) (X0 : List Int) : Bool := (ordOf N0 X0).isSome
theorem resCliqueOrderOf_len (N0 : Int) (X0 : List Int) : (resCliqueOrderOf N0 X0).length ≤ 1048576 := by
  rw [resCliqueOrderOf, optL, ints_len]
  rcases hw : ordOf N0 X0 with _ | r
  · simp
  · have := ordOf_len hw
    show r.length ≤ 1048576
    omega
theorem specCliqueOrderOf_law {N0 : Int} {A0 : Option Addr} {n0 c0 : Nat} {X0 : List Int} {w : World} (hx0 : RI w A0 n0 X0) (hn0 : n0 ≤ 1048576) (_fx0 : Fits X0) :
    Calls Try.prog 24 #[.agg #[.int .i64 N0, .slice A0 n0 c0]] w (GivesIB (resCliqueOrderOf N0 X0) (flagCliqueOrderOf N0 X0) w) :=
  specCliqueOrderOf_any _ _ _ _ _ _ hx0 (by omega)
theorem implCliqueOrderOf_law {N0 : Int} {A0 : Option Addr} {n0 c0 : Nat} {X0 : List Int} {w : World} (hx0 : RI w A0 n0 X0) (hn0 : n0 ≤ 1048576) (_fx0 : Fits X0) :
    Calls Try.prog 25 #[.agg #[.int .i64 N0, .slice A0 n0 c0]] w (GivesIB (resCliqueOrderOf N0 X0) (flagCliqueOrderOf N0 X0) w) :=
  implCliqueOrderOf_any _ _ _ _ _ _ hx0 (by omega)
end Go.Proofs.Ytnaoomchekhcgaa
