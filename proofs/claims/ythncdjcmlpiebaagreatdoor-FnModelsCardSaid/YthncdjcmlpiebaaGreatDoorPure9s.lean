/- Chapter 9, plain: points that meet all intervals. No program in sight. -/
import Derived.Test.YthncdjcmlpiebaaGreatDoorPurA
namespace Go.Proofs.YthncdjcmlpiebaaGreatDoor
/-- Interval i holds a point of p. -/
def seesP (L R : List Int) (i : Nat) (x : Int) : Bool := decide (L.getD i 0 ≤ x) && decide (x ≤ R.getD i 0)
def sees (L R p : List Int) (i : Nat) : Bool := p.any (seesP L R i)
theorem sees_snoc (L R p : List Int) (i : Nat) (q : Int) : sees L R (p ++ [q]) i = (sees L R p i || seesP L R i q) := by simp [sees]
/-- The intervals before k that hold none, as bits. -/
def unc (L R p : List Int) : Nat → Nat
  | 0 => 0
  | k + 1 => unc L R p k + if sees L R p k then 0 else 2 ^ k
theorem unc_lt (L R p : List Int) : ∀ k, unc L R p k < 2 ^ k
  | 0 => by simp [unc]
  | k + 1 => by
    have := unc_lt L R p k
    rw [unc, Nat.pow_succ]
    split <;> omega
theorem add_top {a k : Nat} (h : a < 2 ^ k) : a + 2 ^ k = a ||| 2 ^ k := by
  have := Nat.two_pow_add_eq_or_of_lt h 1
  rw [Nat.mul_one] at this
  rw [Nat.or_comm, ← this, Nat.add_comm]
theorem testBit_unc (L R p : List Int) (i : Nat) : ∀ k, (unc L R p k).testBit i = (decide (i < k) && !sees L R p i)
  | 0 => by simp [unc]
  | k + 1 => by
    have ih := testBit_unc L R p i k
    rw [unc]
    by_cases hs : sees L R p k = true
    · rw [if_pos hs, Nat.add_zero, ih]
      by_cases e : i = k
      · subst e; simp [hs]
      · have : decide (i < k + 1) = decide (i < k) := decide_eq_decide.2 (by omega)
        rw [this]
    · rw [if_neg hs, add_top (unc_lt L R p k), Nat.testBit_or, ih, Nat.testBit_two_pow]
      by_cases e : i = k
      · subst e; simp [hs]
      · have : decide (i < k + 1) = decide (i < k) := decide_eq_decide.2 (by omega)
        rw [this, decide_eq_false (show ¬ k = i from fun h => e h.symm), Bool.or_false]
theorem testBit_pcK (L R : List Int) (x : Int) (i : Nat) : ∀ k, (pcK L R x k).testBit i = (decide (i < k) && seesP L R i x)
  | 0 => by simp [pcK]
  | k + 1 => by
    have ih := testBit_pcK L R x i k
    by_cases hs : L.getD k 0 ≤ x ∧ x ≤ R.getD k 0
    · rw [pcK_yes hs, add_top (pcK_lt L R x k), Nat.testBit_or, ih, Nat.testBit_two_pow]
      by_cases e : i = k
      · subst e
        have : seesP L R i x = true := by rw [seesP, decide_eq_true hs.1, decide_eq_true hs.2]; rfl
        rw [this]; simp
      · have : decide (i < k + 1) = decide (i < k) := decide_eq_decide.2 (by omega)
        rw [this, decide_eq_false (show ¬ k = i from fun h => e h.symm), Bool.or_false]
    · rw [pcK_nay hs, ih]
      by_cases e : i = k
      · subst e
        have : seesP L R i x = false := by
          rw [← Bool.not_eq_true, seesP, Bool.and_eq_true, decide_eq_true_eq, decide_eq_true_eq]; exact hs
        rw [this]; simp
      · have : decide (i < k + 1) = decide (i < k) := decide_eq_decide.2 (by omega)
        rw [this]
theorem dif_add (a b : Nat) : dif a b + (a &&& b) = a := by
  have h0 : dif a b &&& (a &&& b) = 0 := by
    apply Nat.eq_of_testBit_eq
    intro i
    rw [Nat.testBit_and, testBit_dif, Nat.testBit_and, Nat.zero_testBit]
    cases a.testBit i <;> cases b.testBit i <;> rfl
  rw [add_of_and h0]
  apply Nat.eq_of_testBit_eq
  intro i
  rw [Nat.testBit_or, testBit_dif, Nat.testBit_and]
  cases a.testBit i <;> cases b.testBit i <;> rfl
theorem unc_snoc (L R p : List Int) (q : Int) (n : Nat) : unc L R (p ++ [q]) n = dif (unc L R p n) (pcK L R q n) := by
  apply Nat.eq_of_testBit_eq
  intro i
  rw [testBit_dif, testBit_unc, testBit_unc, testBit_pcK, sees_snoc]
  cases decide (i < n) <;> cases sees L R p i <;> cases seesP L R i q <;> rfl
/-- The least right end of an interval before k that holds no point; 100 if there is none. -/
def nxtK (L R p : List Int) : Nat → Int
  | 0 => 100
  | k + 1 => if sees L R p k then nxtK L R p k else min (nxtK L R p k) (R.getD k 0)
theorem nxtK_cases {L R p : List Int} {n : Nat} (h : ∀ j, j < n → 0 ≤ R.getD j 0 ∧ R.getD j 0 ≤ 99) : ∀ k, k ≤ n → (nxtK L R p k = 100 ∧ ∀ i, i < k → sees L R p i = true) ∨ ∃ i, i < k ∧ sees L R p i = false ∧ nxtK L R p k = R.getD i 0
  | 0, _ => .inl ⟨rfl, fun i hi => absurd hi (by omega)⟩
  | k + 1, hk => by
    have hr := h k (by omega)
    rw [nxtK]
    rcases Bool.eq_false_or_eq_true (sees L R p k) with e | e
    · rw [if_pos e]
      rcases nxtK_cases h k (by omega) with ⟨h1, h2⟩ | ⟨i, h1, h2, h3⟩
      · refine .inl ⟨h1, fun i hi => ?_⟩
        rcases Nat.lt_succ_iff_lt_or_eq.1 hi with h' | rfl
        · exact h2 i h'
        · exact e
      · exact .inr ⟨i, by omega, h2, h3⟩
    · rw [e]
      simp only [Bool.false_eq_true, if_false]
      rcases nxtK_cases h k (by omega) with ⟨h1, h2⟩ | ⟨i, h1, h2, h3⟩
      · exact .inr ⟨k, by omega, e, by rw [h1]; omega⟩
      · by_cases hm : nxtK L R p k ≤ R.getD k 0
        · exact .inr ⟨i, by omega, h2, by rw [← h3]; omega⟩
        · exact .inr ⟨k, by omega, e, by omega⟩
theorem unc_zero {L R p : List Int} {n : Nat} : unc L R p n = 0 ↔ ∀ i, i < n → sees L R p i = true := by
  constructor
  · intro h i hi
    have := testBit_unc L R p i n
    rw [h, Nat.zero_testBit, decide_eq_true hi] at this
    simpa using this
  · intro h
    apply Nat.eq_of_testBit_eq
    intro i
    rw [testBit_unc, Nat.zero_testBit]
    by_cases hi : i < n
    · rw [h i hi]; simp
    · rw [decide_eq_false hi]; rfl
/-- The walk: one point more while an interval holds none. -/
def stabR (L R : List Int) (n : Nat) : Nat → List Int → List Int
  | 0, p => p
  | f + 1, p => if unc L R p n = 0 then p else stabR L R n f (p ++ [nxtK L R p n])
theorem stabR_end {L R p : List Int} {n f : Nat} (h : unc L R p n = 0) : stabR L R n f p = p := by
  cases f with
  | zero => rfl
  | succ f => rw [stabR, if_pos h]
theorem stabR_next {L R p : List Int} {n f : Nat} (h : unc L R p n ≠ 0) (hf : unc L R p n ≤ f) : ∃ f', f = f' + 1 ∧ stabR L R n f p = stabR L R n f' (p ++ [nxtK L R p n]) := by
  cases f with
  | zero => omega
  | succ f => exact ⟨f, rfl, by rw [stabR, if_neg h]⟩
theorem unc_less {L R p : List Int} {n : Nat} (hm : ∀ j, j < n → 0 ≤ L.getD j 0 ∧ L.getD j 0 ≤ R.getD j 0 ∧ R.getD j 0 ≤ 99) (h : unc L R p n ≠ 0) : (0 ≤ nxtK L R p n ∧ nxtK L R p n ≤ 99) ∧ unc L R (p ++ [nxtK L R p n]) n + 1 ≤ unc L R p n := by
  rcases nxtK_cases (L := L) (R := R) (p := p) (n := n) (fun j hj => by have := hm j hj; omega) n (Nat.le_refl _) with ⟨_, h2⟩ | ⟨i, h1, h2, h3⟩
  · exact absurd (unc_zero.2 h2) h
  · have hi := hm i h1
    refine ⟨by omega, ?_⟩
    rw [unc_snoc]
    have hd := dif_add (unc L R p n) (pcK L R (nxtK L R p n) n)
    have hb : (unc L R p n &&& pcK L R (nxtK L R p n) n).testBit i = true := by
      rw [Nat.testBit_and, testBit_unc, testBit_pcK, h2, decide_eq_true h1, seesP, h3, decide_eq_true hi.2.1, decide_eq_true (Int.le_refl _)]; rfl
    have hne : unc L R p n &&& pcK L R (nxtK L R p n) n ≠ 0 := fun e => by rw [e, Nat.zero_testBit] at hb; cases hb
    omega
/-- The reference's smallest right end so far: -1 where there is none. -/
def bestR (R : List Int) (U : Nat) : Nat → Int
  | 0 => -1
  | k + 1 => if U.testBit k = true ∧ (bestR R U k < 0 ∨ R.getD k 0 < bestR R U k) then R.getD k 0 else bestR R U k
theorem bestR_nxt {L R p : List Int} {n : Nat} (hm : ∀ j, j < n → 0 ≤ R.getD j 0 ∧ R.getD j 0 ≤ 99) : ∀ k, k ≤ n → bestR R (unc L R p n) k = if nxtK L R p k = 100 then -1 else nxtK L R p k
  | 0, _ => rfl
  | k + 1, hk => by
    have hr := hm k (by omega)
    rw [bestR, bestR_nxt hm k (by omega), nxtK, testBit_unc, decide_eq_true (show k < n by omega)]
    rcases Bool.eq_false_or_eq_true (sees L R p k) with e | e
    · rw [e]; simp
    · rw [e]
      simp only [Bool.not_false, Bool.and_true, true_and, Bool.false_eq_true, if_false]
      rcases nxtK_cases (L := L) (p := p) hm k (by omega) with ⟨h1, _⟩ | ⟨i, h1, _, h3⟩
      · rw [h1, if_pos rfl, if_pos (.inl (by omega)), if_neg (by omega)]; omega
      · have := hm i (by omega)
        rw [h3]
        have hne : ¬ R.getD i 0 = 100 := by omega
        rw [if_neg hne]
        by_cases hlt : R.getD k 0 < R.getD i 0
        · rw [if_pos (.inr hlt), if_neg (by omega)]; omega
        · rw [if_neg (by omega), if_neg (by omega)]; omega
def stabOf (L R : List Int) : List Int := if isModel L R then stabR L R L.length 127 [] else []
theorem unc_nil {L R : List Int} : ∀ n, unc L R [] n = 2 ^ n - 1
  | 0 => rfl
  | n + 1 => by
    have h : sees L R [] n = false := rfl
    rw [unc, unc_nil n, h, Nat.pow_succ]
    have := Nat.two_pow_pos n
    simp
    omega
theorem stabR_len {L R : List Int} {n : Nat} (hm : ∀ j, j < n → 0 ≤ L.getD j 0 ∧ L.getD j 0 ≤ R.getD j 0 ∧ R.getD j 0 ≤ 99) : ∀ f p, (stabR L R n f p).length ≤ p.length + unc L R p n
  | 0, p => by rw [stabR]; omega
  | f + 1, p => by
    rw [stabR]
    by_cases h : unc L R p n = 0
    · rw [if_pos h]; omega
    · rw [if_neg h]
      have h1 := stabR_len hm f (p ++ [nxtK L R p n])
      have h2 := (unc_less hm h).2
      rw [List.length_append, List.length_singleton] at h1
      omega
theorem stabOf_len (L R : List Int) : (stabOf L R).length ≤ 127 := by
  rw [stabOf]
  rcases Bool.eq_false_or_eq_true (isModel L R) with h | h
  · rw [if_pos h]
    have sp := isModel_spec h
    have h1 := stabR_len (L := L) (R := R) (n := L.length) (fun j hj => mOk_iff.1 (sp.2.2.2 j hj)) 127 []
    rw [unc_nil] at h1
    have h2 : 2 ^ L.length ≤ 2 ^ 7 := Nat.pow_le_pow_right (by omega) sp.2.1
    simp at h1
    omega
  · rw [h]; simp
end Go.Proofs.YthncdjcmlpiebaaGreatDoor
