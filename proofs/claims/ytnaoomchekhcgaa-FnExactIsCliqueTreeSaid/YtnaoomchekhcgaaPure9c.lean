/- Chapter 9, plain: the graph of intervals. -/
import Derived.Test.YtnaoomchekhcgaaPure9
import Derived.Test.YtnaoomchekhcgaaPure2b
namespace Go.Proofs.Ytnaoomchekhcgaa
/-- Intervals i and j meet. -/
def meets (L R : List Int) (i j : Nat) : Bool := decide (L.getD i 0 ≤ R.getD j 0) && decide (L.getD j 0 ≤ R.getD i 0)
def graphRows (L R : List Int) : List Nat := graphJ (meets L R) L.length L.length
def goiNum (L R : List Int) : Int := if isModel L R then L.length else 0
def goiRows (L R : List Int) : List Int := if isModel L R then ints (graphRows L R) else []
theorem goi_ok {L R : List Int} (h : isModel L R = true) : goiNum L R = L.length ∧ goiRows L R = ints (graphRows L R) := by rw [goiNum, goiRows, if_pos h, if_pos h]; exact ⟨rfl, rfl⟩
theorem goi_no {L R : List Int} (h : isModel L R = false) : goiNum L R = 0 ∧ goiRows L R = [] := by rw [goiNum, goiRows, h]; exact ⟨rfl, rfl⟩
theorem graphRows_ok {L R : List Int} (h : isModel L R = true) : GOk L.length (graphRows L R) := by
  have sp := isModel_spec h
  exact (graphJ_ok (J := meets L R) sp.1 sp.2.1 L.length (Nat.le_refl _)).1
theorem goiRows_len (L R : List Int) : (goiRows L R).length ≤ 7 := by
  rcases Bool.eq_false_or_eq_true (isModel L R) with h | h
  · rw [(goi_ok h).2, ints_len, (graphRows_ok h).len]; exact (isModel_spec h).2.1
  · rw [(goi_no h).2]; simp
theorem addE_swap {Q : List Nat} {v x : Nat} (hne : v ≠ x) : addE Q v x = addE Q x v := by
  rw [addE, addE, List.set_comm _ _ hne]
end Go.Proofs.Ytnaoomchekhcgaa
