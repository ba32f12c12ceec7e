/- Walks of chapter 11: asteroidal triples. Walks of chapter 11: the reference's first asteroidal triple. -/
import Derived.Test.YthncdjcmlpiebaaW11A
namespace Go.Proofs.Ythncdjcmlpiebaa
open Go.RowKit
def isTrip (N : Int) (X : List Int) (a b c : Int) : Bool := !(a == b) && !(b == c) && !(c == a) && (avoidOf N X a b c).isSome && (avoidOf N X b c a).isSome && (avoidOf N X c a b).isSome
/-- The first that there is. -/
def ftK (P : Nat → Option (List Nat)) : Nat → Option (List Nat)
  | 0 => none
  | k + 1 => (ftK P k).or (P k)
theorem ftK_none {P : Nat → Option (List Nat)} {k : Nat} (h : ftK P k = none) (h2 : P k = none) : ftK P (k + 1) = none := by rw [ftK, h, h2]; rfl
theorem ftK_some {P : Nat → Option (List Nat)} {k : Nat} {r : List Nat} (h : ftK P k = none) (h2 : P k = some r) : ∀ j, k < j → ftK P j = some r := by
  intro j hj
  induction j with
  | zero => omega
  | succ j ih =>
    rw [ftK]
    rcases Nat.lt_succ_iff_lt_or_eq.1 hj with h' | rfl
    · rw [ih h']; rfl
    · rw [h, h2]; rfl
theorem ftK_low {P : Nat → Option (List Nat)} {m : Nat} (h : ∀ k, k < m → P k = none) : ∀ k, k ≤ m → ftK P k = none
  | 0, _ => rfl
  | k + 1, hk => ftK_none (ftK_low h k (by omega)) (h k (by omega))
def trC (N : Int) (X : List Int) (a b c : Nat) : Option (List Nat) := if b < c ∧ isTrip N X a b c = true then some [a, b, c] else none
def trB (N : Int) (X : List Int) (n a b : Nat) : Option (List Nat) := if a < b then ftK (trC N X a b) n else none
def trA (N : Int) (X : List Int) (n a : Nat) : Option (List Nat) := ftK (trB N X n a) n
def tripOf (N : Int) (X : List Int) : Option (List Nat) := if isGraph N X then ftK (trA N X N.toNat) N.toNat else none
theorem tripOf_no {N : Int} {X : List Int} (h : isGraph N X = false) : tripOf N X = none := by rw [tripOf, h]; rfl
theorem tripOf_ok {n : Nat} {Q : List Nat} (h : GOk n Q) : tripOf n (ints Q) = ftK (trA n (ints Q) n) n := by rw [tripOf, if_pos h.is, Int.toNat_natCast]
theorem trC_low {N : Int} {X : List Int} {a b c : Nat} (h : c < b + 1) : trC N X a b c = none := by rw [trC, if_neg fun e => by omega]
theorem trC_no {N : Int} {X : List Int} {a b c : Nat} (h : isTrip N X a b c = false) : trC N X a b c = none := by rw [trC, if_neg fun e => by rw [h] at e; exact Bool.false_ne_true e.2]
theorem trC_yes {N : Int} {X : List Int} {a b c : Nat} (hbc : b < c) (h : isTrip N X a b c = true) : trC N X a b c = some [a, b, c] := by rw [trC, if_pos ⟨hbc, h⟩]
theorem trB_low {N : Int} {X : List Int} {n a b : Nat} (h : b < a + 1) : trB N X n a b = none := by rw [trB, if_neg (by omega)]
theorem trB_at {N : Int} {X : List Int} {n a b : Nat} (h : a < b) : trB N X n a b = ftK (trC N X a b) n := by rw [trB, if_pos h]
theorem ftK_len {P : Nat → Option (List Nat)} {b : Nat} {r : List Nat} (h : ∀ k r, P k = some r → r.length ≤ b) : ∀ k, ftK P k = some r → r.length ≤ b
  | 0, e => by cases e
  | k + 1, e => by
    rw [ftK] at e
    rcases hk : ftK P k with _ | q
    · rw [hk] at e; exact h k r (by simpa using e)
    · rw [hk] at e
      have e2 : q = r := by simpa using e
      subst e2
      exact ftK_len h k hk
theorem tripOf_len {N : Int} {X : List Int} {r : List Nat} (h : tripOf N X = some r) : r.length ≤ 3 := by
  rw [tripOf] at h
  split at h
  · refine ftK_len (fun a r e => ?_) _ h
    refine ftK_len (fun b r e => ?_) _ e
    rw [trB] at e
    split at e
    · refine ftK_len (fun c r e => ?_) _ e
      rw [trC] at e
      split at e
      · injection e with e; subst e; simp
      · cases e
    · cases e
  · cases h
end Go.Proofs.Ythncdjcmlpiebaa
namespace Go.Proofs.Ythncdjcmlpiebaa
open Go.RowKit
end Go.Proofs.Ythncdjcmlpiebaa
