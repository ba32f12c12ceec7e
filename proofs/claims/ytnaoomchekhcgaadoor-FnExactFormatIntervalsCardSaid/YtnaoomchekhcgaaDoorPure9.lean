/- The plain notions of chapter 9 (models by intervals), with no program in sight. -/
namespace Go.Proofs.YtnaoomchekhcgaaDoor

def mOk (l r : Int) : Bool := decide (0 ≤ l) && decide (l ≤ r) && decide (r ≤ 99)
theorem mOk_iff {l r : Int} : mOk l r = true ↔ 0 ≤ l ∧ l ≤ r ∧ r ≤ 99 := by
  unfold mOk; simp only [Bool.and_eq_true, decide_eq_true_eq, and_assoc]
theorem mOk_no {l r : Int} (h : ¬ (0 ≤ l ∧ l ≤ r ∧ r ≤ 99)) : mOk l r = false := by
  rw [← Bool.not_eq_true, mOk_iff]; exact h

/-- P9: 1 to 7 intervals of numbers from 0 to 99. -/
def isModel (L R : List Int) : Bool :=
  decide (1 ≤ L.length) && decide (L.length ≤ 7) && decide (R.length = L.length) && (List.range L.length).all fun i => mOk (L.getD i 0) (R.getD i 0)
theorem isModel_true {L R : List Int} (h1 : 1 ≤ L.length) (h2 : L.length ≤ 7) (h3 : R.length = L.length) (h : ∀ j, j < L.length → mOk (L.getD j 0) (R.getD j 0) = true) : isModel L R = true := by
  unfold isModel
  simp only [Bool.and_eq_true, decide_eq_true_eq, List.all_eq_true, List.mem_range]
  exact ⟨⟨⟨h1, h2⟩, h3⟩, h⟩
theorem isModel_spec {L R : List Int} (h : isModel L R = true) : 1 ≤ L.length ∧ L.length ≤ 7 ∧ R.length = L.length ∧ ∀ j, j < L.length → mOk (L.getD j 0) (R.getD j 0) = true := by
  unfold isModel at h
  simp only [Bool.and_eq_true, decide_eq_true_eq, List.all_eq_true, List.mem_range] at h
  exact ⟨h.1.1.1, h.1.1.2, h.1.2, h.2⟩
theorem isModel_false {L R : List Int} {j : Nat} (hj : j < L.length) (h : mOk (L.getD j 0) (R.getD j 0) = false) : isModel L R = false := by
  rw [← Bool.not_eq_true]
  intro e
  rw [(isModel_spec e).2.2.2 j hj] at h
  cases h
theorem isModel_len {L R : List Int} (h : ¬ (1 ≤ L.length ∧ L.length ≤ 7 ∧ R.length = L.length)) : isModel L R = false := by
  rw [← Bool.not_eq_true]
  intro e
  have := isModel_spec e
  exact h ⟨this.1, this.2.1, this.2.2.1⟩

def isUnitModel (L R : List Int) (d : Int) : Bool := isModel L R && (List.range L.length).all fun i => decide (R.getD i 0 - L.getD i 0 = d)
theorem isUnitModel_no {L R : List Int} {d : Int} (h : isModel L R = false) : isUnitModel L R d = false := by simp [isUnitModel, h]
theorem isUnitModel_true {L R : List Int} {d : Int} (h : isModel L R = true) (ha : ∀ j, j < L.length → R.getD j 0 - L.getD j 0 = d) : isUnitModel L R d = true := by
  unfold isUnitModel
  simp only [h, Bool.true_and, List.all_eq_true, List.mem_range, decide_eq_true_eq]
  exact ha
theorem isUnitModel_false {L R : List Int} {d : Int} {j : Nat} (hj : j < L.length) (h : R.getD j 0 - L.getD j 0 ≠ d) : isUnitModel L R d = false := by
  rw [← Bool.not_eq_true]
  intro e
  unfold isUnitModel at e
  simp only [Bool.and_eq_true, List.all_eq_true, List.mem_range, decide_eq_true_eq] at e
  exact h (e.2 j hj)

/-- Interval i contains interval k, another one. -/
def holds2 (L R : List Int) (i k : Nat) : Bool := decide (i ≠ k) && decide (L.getD i 0 ≤ L.getD k 0) && decide (R.getD k 0 ≤ R.getD i 0)
theorem holds2_iff {L R : List Int} {i k : Nat} : holds2 L R i k = true ↔ i ≠ k ∧ L.getD i 0 ≤ L.getD k 0 ∧ R.getD k 0 ≤ R.getD i 0 := by
  unfold holds2; simp only [Bool.and_eq_true, decide_eq_true_eq, and_assoc]
def isProperModel (L R : List Int) : Bool := isModel L R && (List.range L.length).all fun i => (List.range L.length).all fun k => !holds2 L R i k
theorem isProperModel_no {L R : List Int} (h : isModel L R = false) : isProperModel L R = false := by simp [isProperModel, h]
theorem isProperModel_true {L R : List Int} (h : isModel L R = true) (ha : ∀ i, i < L.length → ∀ k, k < L.length → ¬ (i ≠ k ∧ L.getD i 0 ≤ L.getD k 0 ∧ R.getD k 0 ≤ R.getD i 0)) : isProperModel L R = true := by
  unfold isProperModel
  simp only [h, Bool.true_and, List.all_eq_true, List.mem_range, Bool.not_eq_true', ← Bool.not_eq_true, holds2_iff]
  exact ha
theorem isProperModel_false {L R : List Int} {i k : Nat} (hi : i < L.length) (hk : k < L.length) (h : i ≠ k ∧ L.getD i 0 ≤ L.getD k 0 ∧ R.getD k 0 ≤ R.getD i 0) : isProperModel L R = false := by
  rw [← Bool.not_eq_true]
  intro e
  unfold isProperModel at e
  simp only [Bool.and_eq_true, List.all_eq_true, List.mem_range, Bool.not_eq_true', ← Bool.not_eq_true, holds2_iff] at e
  exact e.2 i hi k hk h

/-- Of the first k intervals those that contain x, as bits. -/
def pcK (L R : List Int) (x : Int) : Nat → Nat
  | 0 => 0
  | k + 1 => pcK L R x k + if L.getD k 0 ≤ x ∧ x ≤ R.getD k 0 then 2 ^ k else 0
theorem pcK_lt (L R : List Int) (x : Int) : ∀ k, pcK L R x k < 2 ^ k
  | 0 => by simp [pcK]
  | k + 1 => by
    have := pcK_lt L R x k
    rw [pcK, Nat.pow_succ]
    split <;> omega
theorem pow_small {k : Nat} (hk : k ≤ 7) : 2 ^ k < 9223372036854775808 := Nat.lt_of_le_of_lt (Nat.pow_le_pow_right (by omega) hk) (by decide)
theorem pcK_small (L R : List Int) (x : Int) {k : Nat} (hk : k ≤ 7) : pcK L R x k < 9223372036854775808 := Nat.lt_trans (pcK_lt L R x k) (pow_small hk)
theorem pcK_or (L R : List Int) (x : Int) (k : Nat) : pcK L R x k ||| 2 ^ k = pcK L R x k + 2 ^ k := by
  have := Nat.two_pow_add_eq_or_of_lt (pcK_lt L R x k) 1
  rw [Nat.mul_one] at this
  rw [Nat.or_comm, ← this, Nat.add_comm]
theorem pcK_yes {L R : List Int} {x : Int} {k : Nat} (h : L.getD k 0 ≤ x ∧ x ≤ R.getD k 0) : pcK L R x (k + 1) = pcK L R x k + 2 ^ k := by rw [pcK, if_pos h]
theorem pcK_nay {L R : List Int} {x : Int} {k : Nat} (h : ¬ (L.getD k 0 ≤ x ∧ x ≤ R.getD k 0)) : pcK L R x (k + 1) = pcK L R x k := by rw [pcK, if_neg h]; rfl
def pointsCovered (L R : List Int) (x : Int) : Nat := if isModel L R then pcK L R x L.length else 0
end Go.Proofs.YtnaoomchekhcgaaDoor
