/- Chapter 8, plain: minimal separators. -/
import Derived.Test.YtcaoelihmkbedaaPure3b
namespace Go.Proofs.Ytcaoelihmkbedaa

/-- The part p sees all of s. -/
def sees (Q : List Nat) (s p : Nat) : Bool := dif s (nbrs Q p) == 0
def full (Q : List Nat) (s : Nat) (l : List Nat) : Nat := (l.filter fun p => sees Q s p).length
def restOf (n s : Nat) : Nat := dif (2 ^ n - 1) s
def minSep (Q : List Nat) (n s : Nat) : Bool := decide (2 ≤ full Q s (partsOf Q n (restOf n s)))
theorem full_take {Q : List Nat} {s : Nat} {l : List Nat} {k : Nat} (hk : k < l.length) : full Q s (l.take (k + 1)) = full Q s (l.take k) + if sees Q s (l.getD k 0) then 1 else 0 := by
  have e : l.take (k + 1) = l.take k ++ [l.getD k 0] := by
    rw [List.take_add_one, List.getElem?_eq_getElem hk]
    simp [List.getD, List.getElem?_eq_getElem hk]
  rw [full, e, List.filter_append, List.length_append]
  congr 1
  rw [List.filter_cons]
  cases sees Q s (l.getD k 0) <;> rfl
theorem full_len (Q : List Nat) (s : Nat) (l : List Nat) : full Q s l ≤ l.length := List.length_filter_le ..
theorem rest_lt {n s : Nat} : restOf n s < 2 ^ n := by
  have := dif_le (2 ^ n - 1) s
  have := Nat.two_pow_pos n
  unfold restOf
  omega
theorem mem_partsK {Q : List Nat} {n S p : Nat} : ∀ {f L}, sub L S → S < 128 → p ∈ partsK Q n S f L → sub p S
  | 0, _, _, _, h => by cases h
  | f + 1, L, hL, hS, h => by
    rw [partsK] at h
    by_cases h0 : L = 0
    · rw [if_pos h0] at h; cases h
    · rw [if_neg h0] at h
      have hL7 : L < 128 := Nat.lt_of_le_of_lt (sub_le hL) hS
      rcases List.mem_cons.1 h with rfl | h
      · exact grow_sub (sub_trans (low_sub hL7 h0) hL) n
      · exact mem_partsK (sub_trans (fun i hi => by rw [testBit_dif, Bool.and_eq_true] at hi; exact hi.1) hL) hS h
/-- The reference's test, for a part outside s. -/
theorem sees_ref {Q : List Nat} {n s p : Nat} (hp : sub p (restOf n s)) : (around Q p &&& s == s) = sees Q s p := by
  rw [sees, Bool.eq_iff_iff, beq_iff_eq, beq_iff_eq]
  constructor
  · intro e
    apply Nat.eq_of_testBit_eq
    intro i
    have h1 := congrArg (fun y => y.testBit i) e
    simp only [Nat.testBit_and, around, Nat.testBit_or] at h1
    rw [testBit_dif, Nat.zero_testBit]
    have h2 := hp i
    rw [restOf, testBit_dif] at h2
    revert h1 h2
    cases p.testBit i <;> cases s.testBit i <;> cases (nbrs Q p).testBit i <;> simp
  · intro e
    apply Nat.eq_of_testBit_eq
    intro i
    have h1 := congrArg (fun y => y.testBit i) e
    simp only [testBit_dif, Nat.zero_testBit] at h1
    rw [Nat.testBit_and, around, Nat.testBit_or]
    revert h1
    cases p.testBit i <;> cases s.testBit i <;> cases (nbrs Q p).testBit i <;> simp
end Go.Proofs.Ytcaoelihmkbedaa
