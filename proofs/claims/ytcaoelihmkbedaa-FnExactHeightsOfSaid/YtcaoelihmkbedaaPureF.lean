/- A list of the numbers below k that meet a test, in ascending order. No program in sight. -/
import Derived.Test.YtcaoelihmkbedaaPure3
namespace Go.Proofs.Ytcaoelihmkbedaa
def filtK (p : Nat → Bool) (k : Nat) : List Nat := (List.range k).filter p
theorem filtK_succ (p : Nat → Bool) (k : Nat) : filtK p (k + 1) = filtK p k ++ if p k then [k] else [] := by
  simp only [filtK, List.range_succ, List.filter_append, List.filter_cons, List.filter_nil]
theorem filtK_yes {p : Nat → Bool} {k : Nat} (h : p k = true) : filtK p (k + 1) = filtK p k ++ [k] := by rw [filtK_succ, if_pos h]
theorem filtK_no {p : Nat → Bool} {k : Nat} (h : p k = false) : filtK p (k + 1) = filtK p k := by rw [filtK_succ, h]; simp
theorem filtK_len (p : Nat → Bool) (k : Nat) : (filtK p k).length ≤ k := by
  have := List.length_filter_le p (List.range k)
  simpa [filtK] using this
theorem mem_filtK {p : Nat → Bool} {k v : Nat} : v ∈ filtK p k ↔ v < k ∧ p v = true := by simp [filtK]
theorem filtK_zero (p : Nat → Bool) : filtK p 0 = [] := rfl
end Go.Proofs.Ytcaoelihmkbedaa
