/- Results of several parts, of the call's own making. -/
import Derived.Test.YtfodbgogeclifaaLaw
namespace Go.Proofs.Ytfodbgogeclifaa
open Go.RowKit
/-- A slice of numbers and a flag. -/
def GivesIB (xs : List Int) (b : Bool) (w : World) (e : Ending) (w' : World) : Prop :=
  ∃ A c, e = .returned (.tuple #[.slice A xs.length c, .bool b]) ∧ OwnI w' w.heap.size A xs.length c xs ∧ Below w.heap.size w w'
/-- A graph and a flag. -/
def GivesGB (N : Int) (xs : List Int) (b : Bool) (w : World) (e : Ending) (w' : World) : Prop :=
  ∃ A c, e = .returned (.tuple #[.agg #[.int .i64 N, .slice A xs.length c], .bool b]) ∧ OwnI w' w.heap.size A xs.length c xs ∧ Below w.heap.size w w'
/-- A struct of two slices of numbers, and a flag. -/
def GivesTB (xs ys : List Int) (b : Bool) (w : World) (e : Ending) (w' : World) : Prop :=
  ∃ A c B d, e = .returned (.tuple #[.agg #[.slice A xs.length c, .slice B ys.length d], .bool b]) ∧ OwnI w' w.heap.size A xs.length c xs ∧ OwnI w' w.heap.size B ys.length d ys ∧
    (∀ j, (Value.slice A xs.length c).ownBlock = some j → (Value.slice B ys.length d).ownBlock ≠ some j) ∧ Below w.heap.size w w'
end Go.Proofs.Ytfodbgogeclifaa
