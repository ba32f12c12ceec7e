/- Walks of chapter 7: cliques, the largest sets, the maximal cliques. -/
import Derived.Test.YtlcmfangecbdgaaW3b
namespace Go.Proofs.Ytlcmfangecbdgaa
open Go.RowKit

theorem isGraph_cases (N : Int) (X : List Int) : (isGraph N X = false) ∨ ∃ (k : Nat) (Q : List Nat), N = k ∧ X = ints Q ∧ GOk k Q := by
  rcases Bool.eq_false_or_eq_true (isGraph N X) with h | h
  · exact .inr (isGraph_ok h)
  · exact .inl h
/-- A number that a graph has: of the graph's data as they are. -/
def ofGraph (N : Int) (X : List Int) (z : Int) (f : Nat → List Nat → Int) : Int := if isGraph N X then f N.toNat (X.map Int.toNat) else z
theorem nats_ints (Q : List Nat) : (ints Q).map Int.toNat = Q := by simp [ints, List.map_map, Function.comp_def]
theorem ofGraph_ok {k : Nat} {Q : List Nat} (h : GOk k Q) (z : Int) (f : Nat → List Nat → Int) : ofGraph k (ints Q) z f = f k Q := by
  rw [ofGraph, if_pos h.is, nats_ints, Int.toNat_natCast]
theorem ofGraph_no {N : Int} {X : List Int} (h : isGraph N X = false) (z : Int) (f : Nat → List Nat → Int) : ofGraph N X z f = z := by rw [ofGraph, h]; rfl
def largestOf (P : List Nat → Nat → Bool) (n : Nat) (Q : List Nat) : Int := (bestK (P Q) (2 ^ n - 1) : Nat)