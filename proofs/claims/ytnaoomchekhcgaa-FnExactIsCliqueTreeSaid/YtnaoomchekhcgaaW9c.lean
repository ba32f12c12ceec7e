/- Walks of chapter 9: the graph of intervals. -/
import Derived.Test.YtnaoomchekhcgaaW9
import Derived.Test.YtnaoomchekhcgaaW2b
import Derived.Test.YtnaoomchekhcgaaPure9c
namespace Go.Proofs.Ytnaoomchekhcgaa
open Go.RowKit
theorem GivesGB.out {N : Int} {n : Nat} {Q : List Nat} {b : Bool} {w : World} {e : Ending} {w' : World} (h : GivesGB N (ints Q) b w e w') (hl : Q.length = n) (h0 : 0 < n) :
    ∃ g d, e = .returned (.tuple #[.agg #[.int .i64 N, .slice (some ⟨g, 0, none⟩) n d], .bool b]) ∧ OwnI w' w.heap.size (some ⟨g, 0, none⟩) n d (ints Q) ∧ Below w.heap.size w w' := by
  obtain ⟨B, d, rfl, hown, hb⟩ := h
  have e : (ints Q).length = n := by rw [ints_len, hl]
  rw [e] at hown ⊢
  obtain ⟨g, rfl⟩ := hown.form h0
  exact ⟨g, d, rfl, hown, hb⟩