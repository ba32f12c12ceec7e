/- The copies, the sizes and the comparisons of a graph and of an orientation. -/
import Derived.Test.YtnaoomchekhcgaaDoorLaw
namespace Go.Proofs.YtnaoomchekhcgaaDoor
open Go.RowKit
set_option maxRecDepth 100000
def NewNI (N : Int) (L : List Int) (n : Nat) (w : World) (e : Ending) (w' : World) : Prop :=
  ∃ g1, e = .returned (.agg #[.int .i64 N, .slice (some ⟨g1, 0, none⟩) n n]) ∧ w.heap.size ≤ g1 ∧ Blk w' g1 3 (L.map (Value.int .i64)).toArray ∧ Below w.heap.size w w'
def New1I (L : List Int) (n : Nat) (w : World) (e : Ending) (w' : World) : Prop :=
  ∃ g1, e = .returned (.agg #[.slice (some ⟨g1, 0, none⟩) n n]) ∧ w.heap.size ≤ g1 ∧ Blk w' g1 3 (L.map (Value.int .i64)).toArray ∧ Below w.heap.size w w'