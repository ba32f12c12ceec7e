/- The plain notions of chapters 2 and 3 (graphs, sets), with no program in sight. -/
namespace Go.Proofs.YtnaoomchekhcgaaDoor

/-- Row i of a graph of k vertices is right by itself. -/
def rowOk (R : List Int) (k i : Nat) : Bool := decide (0 ≤ R.getD i 0) && decide (R.getD i 0 < (2 ^ k : Nat)) && !(R.getD i 0).toNat.testBit i
def symAt (R : List Int) (i j : Nat) : Bool := (R.getD i 0).toNat.testBit j == (R.getD j 0).toNat.testBit i
/-- P2: the size is from 1 to 7, there are as many rows, and the neighbours are those of each other. -/
def isGraph (n : Int) (R : List Int) : Bool :=
  decide (1 ≤ n) && decide (n ≤ 7) && decide ((R.length : Int) = n) && ((List.range R.length).all fun i => rowOk R R.length i) && (List.range R.length).all fun i => (List.range R.length).all fun j => symAt R i j
theorem rowOk_iff {R : List Int} {k i : Nat} : rowOk R k i = true ↔ 0 ≤ R.getD i 0 ∧ R.getD i 0 < (2 ^ k : Nat) ∧ (R.getD i 0).toNat.testBit i = false := by
  unfold rowOk; simp only [Bool.and_eq_true, decide_eq_true_eq, and_assoc, Bool.not_eq_true']
theorem symAt_iff {R : List Int} {i j : Nat} : symAt R i j = true ↔ (R.getD i 0).toNat.testBit j = (R.getD j 0).toNat.testBit i := by
  unfold symAt; simp only [beq_iff_eq]
theorem isGraph_spec {n : Int} {R : List Int} (h : isGraph n R = true) : 1 ≤ n ∧ n ≤ 7 ∧ (R.length : Int) = n ∧ (∀ i, i < R.length → rowOk R R.length i = true) ∧ ∀ i, i < R.length → ∀ j, j < R.length → symAt R i j = true := by
  unfold isGraph at h
  simp only [Bool.and_eq_true, decide_eq_true_eq, List.all_eq_true, List.mem_range] at h
  exact ⟨h.1.1.1.1, h.1.1.1.2, h.1.1.2, h.1.2, h.2⟩
theorem isGraph_true {n : Int} {R : List Int} (h1 : 1 ≤ n) (h2 : n ≤ 7) (h3 : (R.length : Int) = n) (hr : ∀ i, i < R.length → rowOk R R.length i = true) (hs : ∀ i, i < R.length → ∀ j, j < R.length → symAt R i j = true) : isGraph n R = true := by
  unfold isGraph
  simp only [Bool.and_eq_true, decide_eq_true_eq, List.all_eq_true, List.mem_range]
  exact ⟨⟨⟨⟨h1, h2⟩, h3⟩, hr⟩, hs⟩
theorem isGraph_len {n : Int} {R : List Int} (h : ¬ (1 ≤ n ∧ n ≤ 7 ∧ (R.length : Int) = n)) : isGraph n R = false := by
  rw [← Bool.not_eq_true]
  intro e
  have := isGraph_spec e
  exact h ⟨this.1, this.2.1, this.2.2.1⟩
theorem isGraph_row {n : Int} {R : List Int} {i : Nat} (hi : i < R.length) (h : ¬ rowOk R R.length i = true) : isGraph n R = false := by
  rw [← Bool.not_eq_true]
  exact fun e => h ((isGraph_spec e).2.2.2.1 i hi)
theorem isGraph_pair {n : Int} {R : List Int} {i j : Nat} (hi : i < R.length) (hj : j < R.length) (h : ¬ symAt R i j = true) : isGraph n R = false := by
  rw [← Bool.not_eq_true]
  exact fun e => h ((isGraph_spec e).2.2.2.2 i hi j hj)

/-- Row v of a graph. -/
def nb (Q : List Nat) (v : Nat) : Nat := Q.getD v 0
/-- The reference's way to see it. -/
theorem isGraph_ref {n : Nat} {X : List Int} (h1 : 1 ≤ n) (h7 : n ≤ 7) (hl : X.length = n) (hr : ∀ i, i < n → rowOk X n i = true)
    (hs : ∀ i, i < n → ∀ j, j < n → (X.getD i 0).toNat.testBit j = true → (X.getD j 0).toNat.testBit i = true) : isGraph n X = true := by
  refine isGraph_true (by omega) (by omega) (by rw [hl]) (by rw [hl]; exact hr) ?_
  intro i hi j hj
  rw [hl] at hi hj
  rw [symAt_iff, Bool.eq_iff_iff]
  exact ⟨hs i hi j hj, hs j hj i hi⟩
/-- A graph that is right: n vertices, row i holds the neighbours of i as bits. -/
structure GOk (n : Nat) (R : List Nat) : Prop where
  pos : 1 ≤ n
  le : n ≤ 7
  len : R.length = n
  lt : ∀ i, nb R i < 2 ^ n
  irr : ∀ i, (nb R i).testBit i = false
  sym : ∀ i j, (nb R i).testBit j = (nb R j).testBit i

def ints (R : List Nat) : List Int := R.map fun (x : Nat) => (x : Int)
theorem ints_len (R : List Nat) : (ints R).length = R.length := by simp [ints]
theorem ints_getD (R : List Nat) (i : Nat) : (ints R).getD i 0 = ((R.getD i 0 : Nat) : Int) := by
  simp only [ints, List.getD_eq_getElem?_getD, List.getElem?_map]
  cases R[i]? <;> simp
theorem ints_nb (R : List Nat) (i : Nat) : (ints R).getD i 0 = ((nb R i : Nat) : Int) := ints_getD R i
theorem ints_nats {R : List Int} (h : ∀ i, i < R.length → 0 ≤ R.getD i 0) : R = ints (R.map Int.toNat) := by
  apply List.ext_getElem
  · simp [ints]
  · intro i h1 h2
    have := h i h1
    simp only [List.getD_eq_getElem?_getD, List.getElem?_eq_getElem h1, Option.getD_some] at this
    simp only [ints, List.getElem_map]
    omega
theorem getD_out {R : List Nat} {i : Nat} (h : R.length ≤ i) : R.getD i 0 = 0 := by
  simp [List.getD_eq_getElem?_getD, List.getElem?_eq_none h]
theorem isGraph_ok {n : Int} {R : List Int} (h : isGraph n R = true) : ∃ (k : Nat) (Q : List Nat), n = k ∧ R = ints Q ∧ GOk k Q := by
  obtain ⟨h1, h2, h3, hr, hs⟩ := isGraph_spec h
  have hnn : ∀ i, i < R.length → 0 ≤ R.getD i 0 := fun i hi => (rowOk_iff.1 (hr i hi)).1
  have e := ints_nats hnn
  have el : (R.map Int.toNat).length = R.length := by simp
  generalize hQ : R.map Int.toNat = Q at e el
  have hget : ∀ i, (R.getD i 0) = ((Q.getD i 0 : Nat) : Int) := fun i => by rw [e, ints_getD]
  refine ⟨R.length, Q, h3.symm, e, ?_, ?_, el, ?_, ?_, ?_⟩
  all_goals (try simp only [nb])
  · omega
  · omega
  · intro i
    rcases Nat.lt_or_ge i R.length with hi | hi
    · have := (rowOk_iff.1 (hr i hi)).2.1
      rw [hget] at this
      omega
    · rw [getD_out (by omega)]; exact Nat.two_pow_pos _
  · intro i
    rcases Nat.lt_or_ge i R.length with hi | hi
    · have := (rowOk_iff.1 (hr i hi)).2.2
      rw [hget] at this
      simpa using this
    · rw [getD_out (by omega)]; exact Nat.zero_testBit _
  · intro i j
    rcases Nat.lt_or_ge i R.length with hi | hi
    · rcases Nat.lt_or_ge j R.length with hj | hj
      · have := symAt_iff.1 (hs i hi j hj)
        rw [hget, hget] at this
        simpa using this
      · rw [getD_out (R := Q) (i := j) (by omega), Nat.zero_testBit]
        have h2 := (rowOk_iff.1 (hr i hi)).2.1
        rw [hget] at h2
        exact Nat.testBit_lt_two_pow (Nat.lt_of_lt_of_le (by omega : Q.getD i 0 < 2 ^ R.length) (Nat.pow_le_pow_right (by omega) hj))
    · rw [getD_out (R := Q) (i := i) (by omega), Nat.zero_testBit]
      rcases Nat.lt_or_ge j R.length with hj | hj
      · have h2 := (rowOk_iff.1 (hr j hj)).2.1
        rw [hget] at h2
        exact (Nat.testBit_lt_two_pow (Nat.lt_of_lt_of_le (by omega : Q.getD j 0 < 2 ^ R.length) (Nat.pow_le_pow_right (by omega) hi))).symm
      · rw [getD_out (R := Q) (i := j) (by omega), Nat.zero_testBit]
/-- Rows that are right by themselves are sets. -/
theorem rows_nat {n : Nat} {X : List Int} (hl : X.length = n) (h : ∀ i, i < n → rowOk X n i = true) : ∃ Q, X = ints Q ∧ Q.length = n ∧ ∀ i, nb Q i < 2 ^ n ∧ (nb Q i).testBit i = false := by
  have e := ints_nats (R := X) (fun i hi => (rowOk_iff.1 (h i (by omega))).1)
  refine ⟨X.map Int.toNat, e, by simpa using hl, fun i => ?_⟩
  generalize X.map Int.toNat = Q at e
  rcases Nat.lt_or_ge i n with hi | hi
  · have h1 := rowOk_iff.1 (h i hi)
    rw [e, ints_nb] at h1
    exact ⟨by have := h1.2.1; omega, by simpa using h1.2.2⟩
  · have hQ : Q.length = n := by rw [← hl, e, ints_len]
    have : nb Q i = 0 := getD_out (by omega)
    rw [this]
    exact ⟨Nat.two_pow_pos _, Nat.zero_testBit _⟩
theorem symAt_nb {Q : List Nat} {i j : Nat} : symAt (ints Q) i j = true ↔ (nb Q i).testBit j = (nb Q j).testBit i := by
  rw [symAt_iff, ints_nb, ints_nb]
  simp
theorem isGraph_pairs {n : Nat} {Q : List Nat} (h1 : 1 ≤ n) (h7 : n ≤ 7) (hl : Q.length = n) (hr : ∀ i, nb Q i < 2 ^ n ∧ (nb Q i).testBit i = false) (h : ∀ i, i < n → ∀ j, j < i → (nb Q i).testBit j = (nb Q j).testBit i) : isGraph n (ints Q) = true := by
  have hL : (ints Q).length = n := by rw [ints_len, hl]
  refine isGraph_true (by omega) (by omega) (by rw [hL]) ?_ ?_
  · intro i _
    rw [rowOk_iff, ints_nb, hL]
    exact ⟨by omega, by have := (hr i).1; omega, by simpa using (hr i).2⟩
  · intro i hi j hj
    rw [hL] at hi hj
    rw [symAt_nb]
    rcases Nat.lt_trichotomy i j with hlt | rfl | hlt
    · exact (h j hj i hlt).symm
    · rfl
    · exact h i hi j hlt
theorem GOk.is {n : Nat} {R : List Nat} (h : GOk n R) : isGraph n (ints R) = true := by
  have hl : (ints R).length = n := by rw [ints_len, h.len]
  refine isGraph_true (by have := h.pos; omega) (by have := h.le; omega) (by rw [hl]) ?_ ?_
  · intro i _
    rw [rowOk_iff, ints_nb, hl]
    exact ⟨by omega, by have := h.lt i; omega, by simpa using h.irr i⟩
  · intro i _ j _
    rw [symAt_iff, ints_nb, ints_nb]
    simpa using h.sym i j
end Go.Proofs.YtnaoomchekhcgaaDoor
