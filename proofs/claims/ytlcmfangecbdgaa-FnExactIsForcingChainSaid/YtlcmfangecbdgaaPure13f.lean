/- Chapter 13, plain: what an arc forces. No program in sight. -/
import Derived.Test.YtlcmfangecbdgaaPure2e
namespace Go.Proofs.Ytlcmfangecbdgaa
/-- Arc a, b forces arc v, w at once. -/
def nxtAt (Q : List Nat) (a b v w : Nat) : Bool := edge Q v w && ((decide (v = a) && decide (w ≠ b) && !edge Q w b) || (decide (w = b) && decide (v ≠ a) && !edge Q v a))
def nxtV (Q : List Nat) (a b v : Nat) : Nat → List (Nat × Nat)
  | 0 => []
  | w + 1 => nxtV Q a b v w ++ if nxtAt Q a b v w = true then [(v, w)] else []
def nxtK (Q : List Nat) (n a b : Nat) : Nat → List (Nat × Nat)
  | 0 => []
  | v + 1 => nxtK Q n a b v ++ nxtV Q a b v n
/-- All arcs that an arc forces at once. -/
def nxt (Q : List Nat) (n a b : Nat) : List (Nat × Nat) := nxtK Q n a b n
theorem nxtV_yes {Q : List Nat} {a b v w : Nat} (h : nxtAt Q a b v w = true) : nxtV Q a b v (w + 1) = nxtV Q a b v w ++ [(v, w)] := by rw [nxtV, if_pos h]
theorem nxtV_no {Q : List Nat} {a b v w : Nat} (h : nxtAt Q a b v w = false) : nxtV Q a b v (w + 1) = nxtV Q a b v w := by rw [nxtV, h]; simp
theorem nxtV_len (Q : List Nat) (a b v : Nat) : ∀ w, (nxtV Q a b v w).length ≤ w
  | 0 => by simp [nxtV]
  | w + 1 => by
    have := nxtV_len Q a b v w
    rw [nxtV, List.length_append]
    split <;> simp <;> omega
theorem nxtK_len (Q : List Nat) (n a b : Nat) : ∀ v, (nxtK Q n a b v).length ≤ v * n
  | 0 => by simp [nxtK]
  | v + 1 => by
    have := nxtK_len Q n a b v
    have := nxtV_len Q a b v n
    rw [nxtK, List.length_append, Nat.succ_mul]
    omega
theorem nxt_len (Q : List Nat) {n : Nat} (h : n ≤ 7) (a b : Nat) : (nxt Q n a b).length ≤ 49 := Nat.le_trans (nxtK_len Q n a b n) (Nat.mul_le_mul h h)
theorem nxtV_mem {Q : List Nat} {a b v : Nat} {p : Nat × Nat} : ∀ {k}, p ∈ nxtV Q a b v k → p.1 = v ∧ p.2 < k ∧ nxtAt Q a b v p.2 = true
  | 0, h => by simp [nxtV] at h
  | k + 1, h => by
    rw [nxtV, List.mem_append] at h
    rcases h with h | h
    · have := nxtV_mem h
      exact ⟨this.1, by omega, this.2.2⟩
    · split at h
      · rename_i hc
        obtain rfl : p = (v, k) := by simpa using h
        exact ⟨rfl, by show k < k + 1; omega, hc⟩
      · cases h
theorem nxtK_mem {Q : List Nat} {n a b : Nat} {p : Nat × Nat} : ∀ {k}, p ∈ nxtK Q n a b k → p.1 < k ∧ p.2 < n ∧ nxtAt Q a b p.1 p.2 = true
  | 0, h => by simp [nxtK] at h
  | k + 1, h => by
    rw [nxtK, List.mem_append] at h
    rcases h with h | h
    · have := nxtK_mem h
      exact ⟨by omega, this.2⟩
    · have := nxtV_mem h
      exact ⟨by omega, this.2.1, by rw [this.1]; exact this.2.2⟩
/-- What is forced are edges. -/
theorem nxt_mem {Q : List Nat} {n a b : Nat} {p : Nat × Nat} (h : p ∈ nxt Q n a b) : p.1 < n ∧ p.2 < n ∧ edge Q p.1 p.2 = true := by
  have := nxtK_mem h
  refine ⟨this.1, this.2.1, ?_⟩
  have h2 := this.2.2
  rw [nxtAt, Bool.and_eq_true] at h2
  exact h2.1
/-! The program's way. -/
def frcS (Q : List Nat) (a b : Nat) : Nat := dif (dif (nb Q a) (nb Q b)) (2 ^ b)
theorem frcS_lt {n : Nat} {Q : List Nat} (h : GOk n Q) (a b : Nat) : frcS Q a b < 2 ^ n := dif_lt (dif_lt (h.lt a))
theorem frcS_bit {n : Nat} {Q : List Nat} (h : GOk n Q) (a b w : Nat) : (frcS Q a b).testBit w = nxtAt Q a b a w := by
  rw [frcS, testBit_dif, testBit_dif, Nat.testBit_two_pow, nxtAt]
  have e1 : (nb Q a).testBit w = edge Q a w := rfl
  have e2 : (nb Q b).testBit w = edge Q w b := h.sym b w
  rw [e1, e2]
  by_cases hw : b = w
  · subst hw; simp
  · have hw' : ¬ w = b := fun e => hw e.symm
    cases edge Q a w <;> cases edge Q w b <;> simp [hw, hw']
theorem listK_nxtV {n : Nat} {Q : List Nat} (h : GOk n Q) (a b : Nat) : ∀ k, (listK (frcS Q a b) k).map (fun c => (a, c)) = nxtV Q a b a k
  | 0 => rfl
  | k + 1 => by
    rcases Bool.eq_false_or_eq_true (nxtAt Q a b a k) with e | e
    · rw [nxtV_yes e, listK_yes (by rw [frcS_bit h, e]), List.map_append, listK_nxtV h a b k]; rfl
    · rw [nxtV_no e, listK_no (by rw [frcS_bit h, e]), listK_nxtV h a b k]
theorem listK_stop {s n : Nat} (hs : s < 2 ^ n) : ∀ k, n ≤ k → listK s k = listK s n
  | 0, h => by obtain rfl : n = 0 := by omega
               rfl
  | k + 1, h => by
    rcases Nat.lt_or_ge k n with h' | h'
    · obtain rfl : n = k + 1 := by omega
      rfl
    · rw [listK_no (Nat.testBit_lt_two_pow (Nat.lt_of_lt_of_le hs (Nat.pow_le_pow_right (by omega) h'))), listK_stop hs k h']
/-- The row of the arc's own beginning. -/
theorem frc_own {n : Nat} {Q : List Nat} (h : GOk n Q) (a b : Nat) : (listOf (frcS Q a b)).map (fun c => (a, c)) = nxtV Q a b a n := by
  rw [listOf, listK_stop (frcS_lt h a b) 7 h.le, listK_nxtV h]
def frcB (Q : List Nat) (a b : Nat) : Nat := dif (nb Q b) (nb Q a)
theorem frcB_bit {n : Nat} {Q : List Nat} (h : GOk n Q) {a b v : Nat} (hv : v ≠ a) : (frcB Q a b).testBit v = nxtAt Q a b v b := by
  rw [frcB, testBit_dif, nxtAt, decide_eq_false hv, decide_eq_true hv]
  have e1 : (nb Q b).testBit v = edge Q v b := h.sym b v
  have e2 : (nb Q a).testBit v = edge Q v a := h.sym a v
  rw [e1, e2]
  simp
theorem nxtAt_far {Q : List Nat} {a b v w : Nat} (hv : v ≠ a) (hw : w ≠ b) : nxtAt Q a b v w = false := by rw [nxtAt, decide_eq_false hv, decide_eq_false hw]; simp
/-- The row of another vertex. -/
theorem nxtV_other {n : Nat} {Q : List Nat} (h : GOk n Q) {a b v : Nat} (hv : v ≠ a) : ∀ k, nxtV Q a b v k = if b < k ∧ (frcB Q a b).testBit v = true then [(v, b)] else []
  | 0 => by rw [if_neg (by omega)]; rfl
  | k + 1 => by
    have ih := nxtV_other (b := b) h hv k
    by_cases hk : k = b
    · subst hk
      rw [if_neg (by omega)] at ih
      rw [nxtV, ih, ← frcB_bit h hv]
      by_cases e : (frcB Q a k).testBit v = true
      · rw [if_pos e, if_pos ⟨by omega, e⟩]; rfl
      · rw [if_neg e, if_neg fun h2 => e h2.2]; rfl
    · rw [nxtV_no (nxtAt_far hv hk), ih]
      by_cases e : b < k ∧ (frcB Q a b).testBit v = true
      · rw [if_pos e, if_pos ⟨by omega, e.2⟩]
      · rw [if_neg e, if_neg fun h2 => e ⟨by omega, h2.2⟩]
end Go.Proofs.Ytlcmfangecbdgaa
