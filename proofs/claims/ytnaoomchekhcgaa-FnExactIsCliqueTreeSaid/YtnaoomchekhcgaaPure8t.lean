/- Chapter 8, plain: the graph of a tree of bags. No program in sight. -/
import Derived.Test.YtnaoomchekhcgaaPure8
import Derived.Test.YtnaoomchekhcgaaPure2b
import Derived.Test.YtnaoomchekhcgaaPure3
import Derived.Test.YtnaoomchekhcgaaPure4
namespace Go.Proofs.Ytnaoomchekhcgaa
def pE (Q l : List Nat) (i : Nat) : Nat → List Nat
  | 0 => Q
  | j + 1 => addE (pE Q l i j) (nb l i) (nb l j)
def qE (Q l : List Nat) : Nat → List Nat
  | 0 => Q
  | i + 1 => pE (qE Q l i) l i i
def rE (Q : List Nat) (b : Nat) (l : List Nat) : Nat → List Nat
  | 0 => Q
  | k + 1 => (rE Q b l k).set (nb l k) (nb (rE Q b l k) (nb l k) ||| dif b (2 ^ nb l k))
def tE (n : Nat) (B : List Nat) : Nat → List Nat
  | 0 => List.replicate n 0
  | m + 1 => qE (tE n B m) (listOf (nb B m)) (listOf (nb B m)).length
theorem take_snocN {l : List Nat} {k : Nat} (h : k < l.length) : l.take (k + 1) = l.take k ++ [nb l k] := by
  rw [List.take_succ_eq_append_getElem h]
  simp [nb, List.getD, List.getElem?_eq_getElem h]
theorem natVerts.notin {n : Nat} {l : List Nat} (h : natVerts n l) {k : Nat} (hk : k < l.length) : nb l k ∉ l.take k := by
  intro hm
  obtain ⟨i, hi, e⟩ := List.mem_iff_getElem.1 hm
  rw [List.length_take] at hi
  have e2 : nb l i = nb l k := by simp [nb, List.getD, List.getElem?_eq_getElem (show i < l.length by omega)] at e ⊢; exact e
  have := h.inj (i := i) (j := k) (by omega) hk e2
  omega
theorem pE_ok {n : Nat} {Q l : List Nat} (h : GOk n Q) (hl : natVerts n l) {i : Nat} (hi : i < l.length) : ∀ j, j ≤ i → GOk n (pE Q l i j)
  | 0, _ => h
  | j + 1, hj => by
    refine (pE_ok h hl hi j (by omega)).addE (hl.at_ hi) (hl.at_ (by omega)) fun e => ?_
    have := hl.inj hi (show j < l.length by omega) e
    omega
theorem pE_bits {n : Nat} {Q l : List Nat} (h : GOk n Q) (hl : natVerts n l) {i : Nat} (hi : i < l.length) : ∀ j, j ≤ i → ∀ a b, (nb (pE Q l i j) a).testBit b = true ↔ (nb Q a).testBit b = true ∨ (a = nb l i ∧ b ∈ l.take j) ∨ (b = nb l i ∧ a ∈ l.take j)
  | 0, _, a, b => by simp [pE]
  | j + 1, hj, a, b => by
    have hk := pE_ok h hl hi j (by omega)
    rw [pE, testBit_addE (by rw [hk.len]; exact hl.at_ hi) (by rw [hk.len]; exact hl.at_ (by omega)) (fun e => by have := hl.inj hi (show j < l.length by omega) e; omega)]
    rw [Bool.or_eq_true, Bool.or_eq_true, pE_bits h hl hi j (by omega) a b, take_snocN (by omega), decide_eq_true_eq, decide_eq_true_eq]
    simp only [List.mem_append, List.mem_singleton]
    constructor
    · rintro (((h1 | h1 | h1) | h1) | h1)
      · exact .inl h1
      · exact .inr (.inl ⟨h1.1, .inl h1.2⟩)
      · exact .inr (.inr ⟨h1.1, .inl h1.2⟩)
      · exact .inr (.inl ⟨h1.1, .inr h1.2⟩)
      · exact .inr (.inr ⟨h1.2, .inr h1.1⟩)
    · rintro (h1 | ⟨h1, h2 | h2⟩ | ⟨h1, h2 | h2⟩)
      · exact .inl (.inl (.inl h1))
      · exact .inl (.inl (.inr (.inl ⟨h1, h2⟩)))
      · exact .inl (.inr ⟨h1, h2⟩)
      · exact .inl (.inl (.inr (.inr ⟨h1, h2⟩)))
      · exact .inr ⟨h2, h1⟩
theorem qE_ok {n : Nat} {Q l : List Nat} (h : GOk n Q) (hl : natVerts n l) : ∀ i, i ≤ l.length → GOk n (qE Q l i)
  | 0, _ => h
  | i + 1, hi => pE_ok (qE_ok h hl i (by omega)) hl (by omega) i (Nat.le_refl _)
theorem qE_bits {n : Nat} {Q l : List Nat} (h : GOk n Q) (hl : natVerts n l) : ∀ i, i ≤ l.length → ∀ a b, (nb (qE Q l i) a).testBit b = true ↔ (nb Q a).testBit b = true ∨ (a ≠ b ∧ a ∈ l.take i ∧ b ∈ l.take i)
  | 0, _, a, b => by simp [qE]
  | i + 1, hi, a, b => by
    rw [qE, pE_bits (qE_ok h hl i (by omega)) hl (by omega) i (Nat.le_refl _) a b, qE_bits h hl i (by omega) a b, take_snocN (by omega)]
    simp only [List.mem_append, List.mem_singleton]
    have hno := hl.notin (k := i) (by omega)
    constructor
    · rintro ((h1 | ⟨h1, h2, h3⟩) | ⟨h1, h2⟩ | ⟨h1, h2⟩)
      · exact .inl h1
      · exact .inr ⟨h1, .inl h2, .inl h3⟩
      · exact .inr ⟨fun e => hno (by rw [← h1, e]; exact h2), .inr h1, .inl h2⟩
      · exact .inr ⟨fun e => hno (by rw [← h1, ← e]; exact h2), .inl h2, .inr h1⟩
    · rintro (h1 | ⟨h1, h2 | h2, h3 | h3⟩)
      · exact .inl (.inl h1)
      · exact .inl (.inr ⟨h1, h2, h3⟩)
      · exact .inr (.inr ⟨h3, h2⟩)
      · exact .inr (.inl ⟨h2, h3⟩)
      · exact absurd (h2.trans h3.symm) h1
theorem rE_len (Q : List Nat) (b : Nat) (l : List Nat) : ∀ k, (rE Q b l k).length = Q.length
  | 0 => rfl
  | k + 1 => by rw [rE, List.length_set, rE_len Q b l k]
theorem rE_bits {n b : Nat} {Q l : List Nat} (hQ : Q.length = n) (hl : natVerts n l) : ∀ k, k ≤ l.length → ∀ a c, (nb (rE Q b l k) a).testBit c = true ↔ (nb Q a).testBit c = true ∨ (a ∈ l.take k ∧ b.testBit c = true ∧ a ≠ c)
  | 0, _, a, c => by simp [rE]
  | k + 1, hk, a, c => by
    rw [rE, nb_set' (by rw [rE_len, hQ]; exact hl.at_ (by omega)), take_snocN (by omega)]
    have ih := rE_bits (b := b) hQ hl k (by omega) a c
    simp only [List.mem_append, List.mem_singleton]
    by_cases e : a = nb l k
    · rw [if_pos e, ← e, Nat.testBit_or, Bool.or_eq_true, ih, testBit_dif, Bool.and_eq_true, Nat.testBit_two_pow]
      constructor
      · rintro ((h1 | ⟨h1, h2, h3⟩) | ⟨h1, h2⟩)
        · exact .inl h1
        · exact .inr ⟨.inl h1, h2, h3⟩
        · exact .inr ⟨.inr rfl, h1, by simpa using h2⟩
      · rintro (h1 | ⟨_, h2, h3⟩)
        · exact .inl (.inl h1)
        · exact .inr ⟨h2, by simpa using h3⟩
    · rw [if_neg e, ih]
      constructor
      · rintro (h1 | ⟨h1, h2, h3⟩)
        · exact .inl h1
        · exact .inr ⟨.inl h1, h2, h3⟩
      · rintro (h1 | ⟨h1 | h1, h2, h3⟩)
        · exact .inl h1
        · exact .inr ⟨h1, h2, h3⟩
        · exact absurd h1 e
theorem rE_lt {n b : Nat} {Q l : List Nat} (h : GOk n Q) (hb : b < 2 ^ n) (hl : natVerts n l) : ∀ k, k ≤ l.length → ∀ a, nb (rE Q b l k) a < 2 ^ n
  | 0, _, a => h.lt a
  | k + 1, hk, a => by
    rw [rE, nb_set' (by rw [rE_len, h.len]; exact hl.at_ (by omega))]
    by_cases e : a = nb l k
    · rw [if_pos e]
      exact Nat.or_lt_two_pow (rE_lt h hb hl k (by omega) _) (dif_lt hb)
    · rw [if_neg e]
      exact rE_lt h hb hl k (by omega) a
theorem listOf_verts {n b : Nat} (hb : b < 2 ^ n) : natVerts n (listOf b) := ⟨fun _ hv => bit_lt hb (mem_listOf.1 hv).2, List.nodup_range.sublist List.filter_sublist⟩
theorem nb_ext {P Q : List Nat} (hl : P.length = Q.length) (h : ∀ i, nb P i = nb Q i) : P = Q := by
  refine List.ext_getElem hl fun i h1 h2 => ?_
  have := h i
  simpa [nb, List.getD, List.getElem?_eq_getElem h1, List.getElem?_eq_getElem h2] using this
theorem rE_full {n b : Nat} {Q : List Nat} (h : GOk n Q) (hb : b < 2 ^ n) : rE Q b (listOf b) (listOf b).length = qE Q (listOf b) (listOf b).length := by
  have hv := listOf_verts hb
  have hq := qE_ok h hv _ (Nat.le_refl _)
  refine nb_ext (by rw [rE_len, h.len, hq.len]) fun i => Nat.eq_of_testBit_eq fun j => ?_
  rw [Bool.eq_iff_iff, rE_bits h.len hv _ (Nat.le_refl _), qE_bits h hv _ (Nat.le_refl _), List.take_length]
  have hm : ∀ x, x ∈ listOf b ↔ b.testBit x = true := fun x => by
    rw [mem_listOf]
    exact ⟨fun h => h.2, fun hx => ⟨Nat.lt_of_lt_of_le (bit_lt hb hx) h.le, hx⟩⟩
  rw [hm, hm]
  constructor
  · rintro (h1 | ⟨h1, h2, h3⟩)
    · exact .inl h1
    · exact .inr ⟨h3, h1, h2⟩
  · rintro (h1 | ⟨h1, h2, h3⟩)
    · exact .inl h1
    · exact .inr ⟨h2, h3, h1⟩
theorem tE_ok {n : Nat} {B : List Nat} (h1 : 1 ≤ n) (h7 : n ≤ 7) : ∀ m, (∀ j, j < m → nb B j < 2 ^ n) → GOk n (tE n B m)
  | 0, _ => GOk.empty h1 h7
  | m + 1, h => qE_ok (tE_ok h1 h7 m fun j hj => h j (by omega)) (listOf_verts (h m (by omega))) _ (Nat.le_refl _)
/-- Whether there is such a graph: a tree, a number of vertices, all bags among them. -/
def hasGoT (B P : List Int) (n : Int) : Bool := isTree B P && decide (1 ≤ n) && decide (n ≤ 7) && B.all fun x => decide (x < 2 ^ n.toNat)
def goTRows (B P : List Int) (n : Int) : List Int := if hasGoT B P n then ints (tE n.toNat (B.map Int.toNat) B.length) else []
def goTNum (B P : List Int) (n : Int) : Int := if hasGoT B P n then n else 0
theorem isTree_cases (B P : List Int) : isTree B P = false ∨ isTree B P = true ∧ ∃ b : List Nat, B = ints b ∧ (∀ j, nb b j < 128) ∧ 1 ≤ b.length ∧ b.length ≤ 20 ∧ P.length = b.length := by
  rcases Bool.eq_false_or_eq_true (isTree B P) with h | h
  · obtain ⟨h1, h2, h3, h4⟩ := isTree_spec h
    have hb : ∀ j, j < B.length → 0 ≤ B.getD j 0 ∧ B.getD j 0 ≤ 127 := fun j hj => by
      have := h4 j hj
      by_cases e : j = 0
      · subst e; exact (tOk_zero.1 this).1
      · exact (tOk_pos (by omega)).1 this |>.1
    have hB := ints_nats (R := B) fun i hi => (hb i hi).1
    refine .inr ⟨h, B.map Int.toNat, hB, fun j => ?_, by rwa [List.length_map], by rwa [List.length_map], by rw [List.length_map]; exact h3⟩
    rcases Nat.lt_or_ge j B.length with hj | hj
    · have := hb j hj
      have e : B.getD j 0 = ((nb (B.map Int.toNat) j : Nat) : Int) := by rw [← ints_nb, ← hB]
      omega
    · have : nb (B.map Int.toNat) j = 0 := getD_out (by rw [List.length_map]; exact hj)
      omega
  · exact .inl h
theorem goT_no {B P : List Int} {n : Int} (h : hasGoT B P n = false) : goTRows B P n = [] ∧ goTNum B P n = 0 := by rw [goTRows, goTNum, h]; exact ⟨rfl, rfl⟩
theorem hasGoT_tree {B P : List Int} {n : Int} (h : isTree B P = false) : hasGoT B P n = false := by rw [hasGoT, h]; rfl
theorem hasGoT_num {B P : List Int} {n : Int} (h : ¬ (1 ≤ n ∧ n ≤ 7)) : hasGoT B P n = false := by
  rw [hasGoT]
  by_cases h1 : 1 ≤ n
  · rw [show decide (n ≤ 7) = false by simp; omega]; simp
  · rw [show decide (1 ≤ n) = false by simp; omega]; simp
theorem all_bags {b : List Nat} {n : Nat} : ((ints b).all fun x => decide (x < 2 ^ n)) = true ↔ ∀ j, j < b.length → nb b j < 2 ^ n := by
  rw [List.all_eq_true]
  constructor
  · intro h j hj
    have hm : ((nb b j : Nat) : Int) ∈ ints b := ints_mem'.2 (nb_mem hj)
    have h1 := of_decide_eq_true (h _ hm)
    have h2 : ((2 : Int) ^ n) = ((2 ^ n : Nat) : Int) := by norm_cast
    omega
  · intro h x hx
    obtain ⟨y, hy, rfl⟩ := ints_mem.1 hx
    obtain ⟨j, hj, rfl⟩ := List.mem_iff_getElem.1 hy
    have h1 := h j hj
    have e : nb b j = b[j] := by simp [nb, List.getD, List.getElem?_eq_getElem hj]
    have h2 : ((2 : Int) ^ n) = ((2 ^ n : Nat) : Int) := by norm_cast
    exact decide_eq_true (by omega)
theorem hasGoT_yes {b : List Nat} {P : List Int} {n : Nat} (h : isTree (ints b) P = true) (h1 : 1 ≤ n) (h7 : n ≤ 7) (hb : ∀ j, j < b.length → nb b j < 2 ^ n) : hasGoT (ints b) P n = true ∧ goTRows (ints b) P n = ints (tE n b b.length) ∧ goTNum (ints b) P n = n := by
  have e : hasGoT (ints b) P n = true := by
    rw [hasGoT, h, Int.toNat_natCast, all_bags.2 hb, decide_eq_true (show (1 : Int) ≤ n by omega), decide_eq_true (show (n : Int) ≤ 7 by omega)]; rfl
  refine ⟨e, ?_, by rw [goTNum, if_pos e]⟩
  rw [goTRows, if_pos e, Int.toNat_natCast, ints_len]
  congr 2
  simp [ints, List.map_map, Function.comp_def]
theorem hasGoT_out {b : List Nat} {P : List Int} {n j : Nat} (hj : j < b.length) (hb : ¬ nb b j < 2 ^ n) : hasGoT (ints b) P n = false := by
  rw [hasGoT, Int.toNat_natCast]
  have : ((ints b).all fun x => decide (x < 2 ^ n)) = false := by
    rw [← Bool.not_eq_true]
    exact fun e => hb (all_bags.1 e j hj)
  rw [this, Bool.and_false]
theorem goTRows_len (B P : List Int) (n : Int) : (goTRows B P n).length ≤ 7 := by
  rcases Bool.eq_false_or_eq_true (hasGoT B P n) with h | h
  · have h0 := h
    rw [hasGoT] at h
    simp only [Bool.and_eq_true, decide_eq_true_eq] at h
    obtain ⟨⟨⟨h1, h2⟩, h3⟩, h4⟩ := h
    obtain ⟨k, rfl⟩ : ∃ k : Nat, n = k := ⟨n.toNat, by omega⟩
    rcases isTree_cases B P with hg | ⟨_, b, rfl, _⟩
    · rw [hg] at h1; cases h1
    · rw [Int.toNat_natCast] at h4
      obtain ⟨_, e, _⟩ := hasGoT_yes h1 (n := k) (by omega) (by omega) (all_bags.1 h4)
      rw [e, ints_len, (tE_ok (by omega) (by omega) _ (all_bags.1 h4)).len]
      omega
  · rw [(goT_no h).1]; simp
end Go.Proofs.Ytnaoomchekhcgaa
