/- Chapter 2, plain: an edge more. No program in sight. -/
import Derived.Test.YtfodbgogeclifaaPure3
namespace Go.Proofs.Ytfodbgogeclifaa
/-- The rows with the edge between v and x. -/
def addE (Q : List Nat) (v x : Nat) : List Nat := (Q.set v (nb Q v ||| 2 ^ x)).set x (nb Q x ||| 2 ^ v)
theorem nb_set' {o : List Nat} {x y j : Nat} (h : x < o.length) : nb (o.set x y) j = if j = x then y else nb o j := by
  unfold nb
  simp only [List.getD_eq_getElem?_getD, List.getElem?_set]
  by_cases e : x = j
  · subst e; simp [h]
  · rw [if_neg e, if_neg (fun k => e k.symm)]
theorem nb_addE {Q : List Nat} {v x j : Nat} (hv : v < Q.length) (hx : x < Q.length) : nb (addE Q v x) j = if j = x then nb Q x ||| 2 ^ v else if j = v then nb Q v ||| 2 ^ x else nb Q j := by
  rw [addE, nb_set' (by simpa using hx), nb_set' hv]
theorem addE_len (Q : List Nat) (v x : Nat) : (addE Q v x).length = Q.length := by simp [addE]
theorem testBit_or2 (a x i : Nat) : (a ||| 2 ^ x).testBit i = (a.testBit i || decide (x = i)) := by rw [Nat.testBit_or, Nat.testBit_two_pow]
theorem testBit_addE {Q : List Nat} {v x j i : Nat} (hv : v < Q.length) (hx : x < Q.length) (hne : v ≠ x) :
    (nb (addE Q v x) j).testBit i = ((nb Q j).testBit i || decide (j = v ∧ i = x) || decide (j = x ∧ i = v)) := by
  rw [nb_addE hv hx]
  by_cases h1 : j = x
  · subst h1
    rw [if_pos rfl, testBit_or2]
    have : decide (j = v ∧ i = j) = false := decide_eq_false fun e => hne e.1.symm
    rw [this, Bool.or_false]
    congr 1
    rw [decide_eq_decide]
    exact ⟨fun e => ⟨rfl, e.symm⟩, fun e => e.2.symm⟩
  · rw [if_neg h1]
    have h3 : decide (j = x ∧ i = v) = false := decide_eq_false fun e => h1 e.1
    rw [h3, Bool.or_false]
    by_cases h2 : j = v
    · subst h2
      rw [if_pos rfl, testBit_or2]
      congr 1
      rw [decide_eq_decide]
      exact ⟨fun e => ⟨rfl, e.symm⟩, fun e => e.2.symm⟩
    · rw [if_neg h2]
      have : decide (j = v ∧ i = x) = false := decide_eq_false fun e => h2 e.1
      rw [this, Bool.or_false]
theorem GOk.addE {n v x : Nat} {Q : List Nat} (h : GOk n Q) (hv : v < n) (hx : x < n) (hne : v ≠ x) : GOk n (addE Q v x) := by
  have hl := h.len
  refine ⟨h.pos, h.le, by rw [addE_len, hl], fun i => ?_, fun i => ?_, fun i j => ?_⟩
  · rw [nb_addE (by omega) (by omega)]
    split
    · exact Nat.or_lt_two_pow (h.lt x) (Nat.pow_lt_pow_right (by omega) hv)
    · split
      · exact Nat.or_lt_two_pow (h.lt v) (Nat.pow_lt_pow_right (by omega) hx)
      · exact h.lt i
  · rw [testBit_addE (by omega) (by omega) hne, h.irr i]
    have h1 : decide (i = v ∧ i = x) = false := decide_eq_false fun e => hne (e.1.symm.trans e.2)
    have h2 : decide (i = x ∧ i = v) = false := decide_eq_false fun e => hne (e.2.symm.trans e.1)
    rw [h1, h2]; rfl
  · rw [testBit_addE (by omega) (by omega) hne, testBit_addE (by omega) (by omega) hne, h.sym i j, Bool.or_assoc, Bool.or_assoc]
    congr 1
    rw [Bool.or_comm]
    congr 1
    · rw [decide_eq_decide]; exact ⟨fun e => ⟨e.2, e.1⟩, fun e => ⟨e.2, e.1⟩⟩
    · rw [decide_eq_decide]; exact ⟨fun e => ⟨e.2, e.1⟩, fun e => ⟨e.2, e.1⟩⟩
theorem or_bit {a x : Nat} (h : a.testBit x = true) : a ||| 2 ^ x = a := by
  apply Nat.eq_of_testBit_eq
  intro i
  rw [testBit_or2]
  by_cases e : x = i
  · subst e; simp [h]
  · simp [e]
theorem set_nb {Q : List Nat} {v : Nat} : Q.set v (nb Q v) = Q := by
  rcases Nat.lt_or_ge v Q.length with h | h
  · rw [nb, List.getD_eq_getElem?_getD, List.getElem?_eq_getElem h, Option.getD_some]
    exact List.set_getElem_self h
  · exact List.set_eq_of_length_le h
/-- An edge that is there. -/
theorem addE_there {n v x : Nat} {Q : List Nat} (h : GOk n Q) (hb : (nb Q v).testBit x = true) : addE Q v x = Q := by
  rw [addE, or_bit hb, or_bit (by rw [h.sym]; exact hb), set_nb, set_nb]
theorem and_bit0 {a x : Nat} (h : a.testBit x = false) : a &&& 2 ^ x = 0 := by
  apply Nat.eq_of_testBit_eq
  intro i
  rw [Nat.testBit_and, Nat.testBit_two_pow, Nat.zero_testBit]
  by_cases e : x = i
  · subst e; simp [h]
  · simp [e]
theorem add_bit {a x : Nat} (h : a.testBit x = false) : a + 2 ^ x = a ||| 2 ^ x := add_of_and (and_bit0 h)
theorem xor_bit {a x : Nat} (h : a.testBit x = false) : a ^^^ 2 ^ x = a ||| 2 ^ x := by
  apply Nat.eq_of_testBit_eq
  intro i
  rw [Nat.testBit_xor, testBit_or2, Nat.testBit_two_pow]
  by_cases e : x = i
  · subst e; simp [h]
  · simp [e]
/-- The graph without edges. -/
theorem GOk.empty {n : Nat} (h1 : 1 ≤ n) (h7 : n ≤ 7) : GOk n (List.replicate n 0) := by
  have hz : ∀ i, nb (List.replicate n 0) i = 0 := fun i => by
    unfold nb
    simp only [List.getD_eq_getElem?_getD, List.getElem?_replicate]
    split <;> simp
  exact ⟨h1, h7, by simp, fun i => by rw [hz]; exact Nat.two_pow_pos _, fun i => by rw [hz]; exact Nat.zero_testBit _, fun i j => by rw [hz, hz, Nat.zero_testBit, Nat.zero_testBit]⟩
/-! Pairs (i, j), j below i, in order: those that J joins are laid into the rows. -/
def pairsJ (J : Nat → Nat → Bool) (Q : List Nat) (i : Nat) : Nat → List Nat
  | 0 => Q
  | j + 1 => if J i j then addE (pairsJ J Q i j) i j else pairsJ J Q i j
def graphJ (J : Nat → Nat → Bool) (n : Nat) : Nat → List Nat
  | 0 => List.replicate n 0
  | i + 1 => pairsJ J (graphJ J n i) i i
theorem pairsJ_yes {J : Nat → Nat → Bool} {Q : List Nat} {i j : Nat} (h : J i j = true) : pairsJ J Q i (j + 1) = addE (pairsJ J Q i j) i j := by rw [pairsJ, if_pos h]
theorem pairsJ_no {J : Nat → Nat → Bool} {Q : List Nat} {i j : Nat} (h : J i j = false) : pairsJ J Q i (j + 1) = pairsJ J Q i j := by rw [pairsJ, h]; rfl
/-- A good graph that holds no edge at or behind the pair (i, j). -/
def upToPair (n : Nat) (Q : List Nat) (i j : Nat) : Prop := GOk n Q ∧ ∀ a b, b ≤ a → (i < a ∨ a = i ∧ j ≤ b) → (nb Q a).testBit b = false
theorem upToPair_zero {n : Nat} (h1 : 1 ≤ n) (h7 : n ≤ 7) : upToPair n (List.replicate n 0) 0 0 := ⟨GOk.empty h1 h7, fun a b _ _ => by
  have : nb (List.replicate n 0) a = 0 := by
    unfold nb
    simp only [List.getD_eq_getElem?_getD, List.getElem?_replicate]
    split <;> simp
  rw [this, Nat.zero_testBit]⟩
theorem upToPair_add {n i j : Nat} {Q : List Nat} (h : upToPair n Q i j) (hi : i < n) (hj : j < i) : upToPair n (addE Q i j) i (j + 1) := by
  refine ⟨h.1.addE hi (by omega) (by omega), fun a b hab hc => ?_⟩
  have hl := h.1.len
  rw [testBit_addE (by omega) (by omega) (by omega), h.2 a b hab (by omega)]
  have h1 : decide (a = i ∧ b = j) = false := decide_eq_false (by omega)
  have h2 : decide (a = j ∧ b = i) = false := decide_eq_false (by omega)
  rw [h1, h2]; rfl
theorem upToPair_skip {n i j : Nat} {Q : List Nat} (h : upToPair n Q i j) : upToPair n Q i (j + 1) := ⟨h.1, fun a b hab hc => h.2 a b hab (by omega)⟩
theorem upToPair_next {n i : Nat} {Q : List Nat} (h : upToPair n Q i i) : upToPair n Q (i + 1) 0 := ⟨h.1, fun a b hab hc => by
  rcases Nat.lt_or_ge i a with h' | h'
  · exact h.2 a b hab (.inl h')
  · omega⟩
theorem upToPair_bit {n i j : Nat} {Q : List Nat} (h : upToPair n Q i j) (hj : j < i) : (nb Q i).testBit j = false ∧ (nb Q j).testBit i = false := by
  have := h.2 i j (by omega) (by omega)
  exact ⟨this, by rw [h.1.sym]; exact this⟩
theorem pairsJ_ok {J : Nat → Nat → Bool} {n i : Nat} {Q : List Nat} (h : upToPair n Q i 0) (hi : i < n) : ∀ j, j ≤ i → upToPair n (pairsJ J Q i j) i j
  | 0, _ => h
  | j + 1, hj => by
    have ih := pairsJ_ok (J := J) h hi j (by omega)
    rw [pairsJ]
    split
    · exact upToPair_add ih hi (by omega)
    · exact upToPair_skip ih
theorem graphJ_ok {J : Nat → Nat → Bool} {n : Nat} (h1 : 1 ≤ n) (h7 : n ≤ 7) : ∀ i, i ≤ n → upToPair n (graphJ J n i) i 0
  | 0, _ => upToPair_zero h1 h7
  | i + 1, hi => upToPair_next (pairsJ_ok (graphJ_ok h1 h7 i (by omega)) (by omega) i (Nat.le_refl _))
end Go.Proofs.Ytfodbgogeclifaa
