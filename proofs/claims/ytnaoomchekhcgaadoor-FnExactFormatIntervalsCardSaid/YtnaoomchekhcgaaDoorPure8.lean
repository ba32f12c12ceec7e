/- The plain notions of chapter 8 (trees of bags), with no program in sight. -/
namespace Go.Proofs.YtnaoomchekhcgaaDoor
/-- Place i of a tree is right. -/
def tOk (B P : List Int) (i : Nat) : Bool :=
  decide (0 ≤ B.getD i 0) && decide (B.getD i 0 ≤ 127) && if i = 0 then decide (P.getD 0 0 = -1) else decide (0 ≤ P.getD i 0) && decide (P.getD i 0 ≤ (i : Int) - 1)
theorem tOk_zero {B P : List Int} : tOk B P 0 = true ↔ (0 ≤ B.getD 0 0 ∧ B.getD 0 0 ≤ 127) ∧ P.getD 0 0 = -1 := by
  unfold tOk; simp only [if_true, Bool.and_eq_true, decide_eq_true_eq]
theorem tOk_pos {B P : List Int} {i : Nat} (hi : 0 < i) : tOk B P i = true ↔ (0 ≤ B.getD i 0 ∧ B.getD i 0 ≤ 127) ∧ 0 ≤ P.getD i 0 ∧ P.getD i 0 ≤ (i : Int) - 1 := by
  unfold tOk; simp only [if_neg (show i ≠ 0 by omega), Bool.and_eq_true, decide_eq_true_eq]
def isTree (B P : List Int) : Bool :=
  decide (1 ≤ B.length) && decide (B.length ≤ 20) && decide (P.length = B.length) && (List.range B.length).all fun i => tOk B P i
theorem isTree_true {B P : List Int} (h1 : 1 ≤ B.length) (h2 : B.length ≤ 20) (h3 : P.length = B.length) (h : ∀ j, j < B.length → tOk B P j = true) : isTree B P = true := by
  unfold isTree
  simp only [Bool.and_eq_true, decide_eq_true_eq, List.all_eq_true, List.mem_range]
  exact ⟨⟨⟨h1, h2⟩, h3⟩, h⟩
theorem isTree_spec {B P : List Int} (h : isTree B P = true) : 1 ≤ B.length ∧ B.length ≤ 20 ∧ P.length = B.length ∧ ∀ j, j < B.length → tOk B P j = true := by
  unfold isTree at h
  simp only [Bool.and_eq_true, decide_eq_true_eq, List.all_eq_true, List.mem_range] at h
  exact ⟨h.1.1.1, h.1.1.2, h.1.2, h.2⟩
theorem isTree_false {B P : List Int} {j : Nat} (hj : j < B.length) (h : ¬ tOk B P j = true) : isTree B P = false := by
  rw [← Bool.not_eq_true]
  exact fun e => h ((isTree_spec e).2.2.2 j hj)
theorem isTree_len {B P : List Int} (h : ¬ (1 ≤ B.length ∧ B.length ≤ 20 ∧ P.length = B.length)) : isTree B P = false := by
  rw [← Bool.not_eq_true]
  intro e
  have := isTree_spec e
  exact h ⟨this.1, this.2.1, this.2.2.1⟩
end Go.Proofs.YtnaoomchekhcgaaDoor
