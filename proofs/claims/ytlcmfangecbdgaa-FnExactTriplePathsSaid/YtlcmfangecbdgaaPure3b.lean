/- Chapter 3, plain: the parts of a set. -/
import Derived.Test.YtlcmfangecbdgaaPure3
namespace Go.Proofs.Ytlcmfangecbdgaa

def sub (a b : Nat) : Prop := ∀ i, a.testBit i = true → b.testBit i = true
theorem sub_and {a b : Nat} : sub (a &&& b) b := fun i h => by rw [Nat.testBit_and, Bool.and_eq_true] at h; exact h.2
theorem sub_le {a b : Nat} (h : sub a b) : a ≤ b := by
  have e : a &&& b = a := by
    apply Nat.eq_of_testBit_eq
    intro i
    rw [Nat.testBit_and]
    have := h i
    revert this
    cases a.testBit i <;> cases b.testBit i <;> simp
  rw [← e]; exact Nat.and_le_right
theorem sub_lt {a b : Nat} (h : sub a b) (hne : a ≠ b) : a < b := Nat.lt_of_le_of_ne (sub_le h) hne
theorem sub_trans {a b c : Nat} (h : sub a b) (k : sub b c) : sub a c := fun i hi => k i (h i hi)
def step (Q : List Nat) (S x : Nat) : Nat := around Q x &&& S
theorem testBit_step {Q : List Nat} {S x i : Nat} : (step Q S x).testBit i = ((x.testBit i || (nbrs Q x).testBit i) && S.testBit i) := by
  rw [step, around, Nat.testBit_and, Nat.testBit_or]
theorem sub_step {Q : List Nat} {S x : Nat} (h : sub x S) : sub x (step Q S x) := fun i hi => by rw [testBit_step, hi, h i hi]; rfl
theorem step_sub {Q : List Nat} {S x : Nat} : sub (step Q S x) S := sub_and
def grow (Q : List Nat) (S x : Nat) : Nat → Nat
  | 0 => x
  | k + 1 => step Q S (grow Q S x k)
theorem grow_sub {Q : List Nat} {S x : Nat} (h : sub x S) : ∀ k, sub (grow Q S x k) S
  | 0 => h
  | _ + 1 => step_sub
theorem grow_from {Q : List Nat} {S x : Nat} (h : sub x S) : ∀ k, sub x (grow Q S x k)
  | 0 => fun _ hi => hi
  | k + 1 => sub_trans (grow_from h k) (sub_step (grow_sub h k))
theorem grow_fix {Q : List Nat} {S x k : Nat} (h : step Q S (grow Q S x k) = grow Q S x k) : ∀ j, grow Q S x (k + j) = grow Q S x k
  | 0 => rfl
  | j + 1 => by show step Q S (grow Q S x (k + j)) = _; rw [grow_fix h j, h]
theorem filter_le {p q : Nat → Bool} : ∀ {l : List Nat}, (∀ x, x ∈ l → p x = true → q x = true) → (l.filter p).length ≤ (l.filter q).length
  | [], _ => Nat.le_refl _
  | x :: l, h => by
    have ih := filter_le (l := l) fun y hy => h y (List.mem_cons_of_mem _ hy)
    have hx := h x (List.mem_cons_self ..)
    rw [List.filter_cons, List.filter_cons]
    revert hx
    cases p x <;> cases q x <;> simp <;> omega
theorem filter_lt {p q : Nat → Bool} {z : Nat} : ∀ {l : List Nat}, (∀ x, x ∈ l → p x = true → q x = true) → z ∈ l → q z = true → p z = false → (l.filter p).length < (l.filter q).length
  | [], _, hz, _, _ => by cases hz
  | x :: l, h, hz, hq, hp => by
    have h' := fun y hy => h y (List.mem_cons_of_mem _ hy)
    have il := filter_le (l := l) h'
    have hx := h x (List.mem_cons_self ..)
    rw [List.filter_cons, List.filter_cons]
    rcases List.mem_cons.1 hz with rfl | hz
    · rw [hp, hq]; simp; omega
    · have ih := filter_lt h' hz hq hp
      revert hx
      cases p x <;> cases q x <;> simp <;> omega
theorem card_lt_of {a b : Nat} (h : sub a b) (hne : a ≠ b) (hb : b < 128) : card a < card b := by
  have hab := sub_le h
  obtain ⟨i, hi, hbi, hai⟩ : ∃ i, i < 7 ∧ b.testBit i = true ∧ a.testBit i = false := by
    refine Classical.byContradiction fun hno => hne ?_
    apply bits_ext (k := 7) (by omega) (by omega)
    intro i hi
    rcases Bool.eq_false_or_eq_true (a.testBit i) with e | e
    · rw [e, h i e]
    · rcases Bool.eq_false_or_eq_true (b.testBit i) with e' | e'
      · exact absurd ⟨i, hi, e', e⟩ hno
      · rw [e, e']
  exact filter_lt (fun x _ => h x) (List.mem_range.2 hi) hbi hai
theorem card_full : ∀ n, n ≤ 7 → card (2 ^ n - 1) = n := by decide
theorem card_le_n {n s : Nat} (h7 : n ≤ 7) (hs : s < 2 ^ n) : card s ≤ n := by
  rw [← card_full n h7]
  refine filter_le fun x _ hx => ?_
  have := bit_lt hs hx
  rw [Nat.testBit_two_pow_sub_one]
  simpa using this
theorem card_pos : ∀ s, s < 128 → s ≠ 0 → 1 ≤ card s := by decide
theorem grow_card {Q : List Nat} {S x : Nat} (hx : sub x S) (hS : S < 128) : ∀ k, (∀ j, j < k → step Q S (grow Q S x j) ≠ grow Q S x j) → card x + k ≤ card (grow Q S x k)
  | 0, _ => Nat.le_refl _
  | k + 1, h => by
    have ih := grow_card hx hS k fun j hj => h j (by omega)
    have hs := sub_step (Q := Q) (grow_sub (Q := Q) hx k)
    have := card_lt_of hs (h k (by omega)).symm (Nat.lt_of_le_of_lt (sub_le step_sub) hS)
    show _ ≤ card (step Q S (grow Q S x k))
    omega
theorem exists_fix {Q : List Nat} {n S x : Nat} (h7 : n ≤ 7) (hS : S < 2 ^ n) (hx : sub x S) (h0 : x ≠ 0) : ∃ j, j < n ∧ step Q S (grow Q S x j) = grow Q S x j := by
  refine Classical.byContradiction fun hno => ?_
  have hS7 : S < 128 := Nat.lt_of_lt_of_le hS (Nat.pow_le_pow_right (n := 2) (by omega) h7)
  have h1 := grow_card (Q := Q) hx hS7 n fun j hj e => hno ⟨j, hj, e⟩
  have h2 := card_le_n h7 (Nat.lt_of_le_of_lt (sub_le (grow_sub (Q := Q) hx n)) hS)
  have h3 := card_pos x (Nat.lt_of_le_of_lt (sub_le hx) hS7) h0
  omega
/-- The part of S that hangs together with x. -/
def part (Q : List Nat) (n S x : Nat) : Nat := grow Q S x n
theorem part_fixed {Q : List Nat} {n S x : Nat} (h7 : n ≤ 7) (hS : S < 2 ^ n) (hx : sub x S) (h0 : x ≠ 0) : step Q S (part Q n S x) = part Q n S x := by
  obtain ⟨j, hj, e⟩ := exists_fix (Q := Q) h7 hS hx h0
  have h1 := grow_fix e (n - j)
  have h2 := grow_fix e (n - j + 1)
  have e1 : j + (n - j) = n := by omega
  have e2 : j + (n - j + 1) = n + 1 := by omega
  rw [e1] at h1
  rw [e2] at h2
  show grow Q S x (n + 1) = grow Q S x n
  rw [h1, h2]
theorem part_of_fix {Q : List Nat} {n S x k : Nat} (h7 : n ≤ 7) (hS : S < 2 ^ n) (hx : sub x S) (h0 : x ≠ 0) (h : step Q S (grow Q S x k) = grow Q S x k) : grow Q S x k = part Q n S x := by
  rcases Nat.le_total k n with hk | hk
  · have := grow_fix h (n - k)
    have e : k + (n - k) = n := by omega
    rw [e] at this
    exact this.symm
  · have := grow_fix (Q := Q) (k := n) (part_fixed h7 hS hx h0) (k - n)
    have e : n + (k - n) = k := by omega
    rw [e] at this
    exact this
/-- What is left holds all that hangs together with it. -/
def closed (Q : List Nat) (S L : Nat) : Prop := sub L S ∧ ∀ y z, L.testBit y = true → (nb Q y).testBit z = true → S.testBit z = true → L.testBit z = true
theorem closed_all (Q : List Nat) (S : Nat) : closed Q S S := ⟨fun _ h => h, fun _ _ _ _ h => h⟩
theorem step_closed {Q : List Nat} {S L x : Nat} (h : closed Q S L) (hx : sub x L) : step Q L x = step Q S x := by
  apply Nat.eq_of_testBit_eq
  intro i
  rw [testBit_step, testBit_step]
  rcases Bool.eq_false_or_eq_true (L.testBit i) with e | e
  · rw [e, h.1 i e]
  · rw [e, Bool.and_false]
    symm
    rw [Bool.and_eq_false_iff]
    rcases Bool.eq_false_or_eq_true (S.testBit i) with es | es
    · left
      rw [Bool.or_eq_false_iff]
      constructor
      · rcases Bool.eq_false_or_eq_true (x.testBit i) with ex | ex
        · have := hx i ex; rw [e] at this; cases this
        · exact ex
      · rcases Bool.eq_false_or_eq_true ((nbrs Q x).testBit i) with ex | ex
        · obtain ⟨v, _, hv, hb⟩ := testBit_nbrs.1 ex
          have := h.2 v i (hx v hv) hb es
          rw [e] at this; cases this
        · exact ex
    · exact .inr es
theorem grow_closed {Q : List Nat} {S L x : Nat} (h : closed Q S L) (hx : sub x L) : ∀ k, grow Q L x k = grow Q S x k
  | 0 => rfl
  | k + 1 => by
    show step Q L (grow Q L x k) = step Q S (grow Q S x k)
    rw [step_closed h (grow_sub hx k), grow_closed h hx k]
theorem closed_dif {n : Nat} {Q : List Nat} {S L p : Nat} (hg : GOk n Q) (h7 : S < 128) (h : closed Q S L) (hp : step Q S p = p) : closed Q S (dif L p) := by
  refine ⟨fun i hi => h.1 i (by rw [testBit_dif, Bool.and_eq_true] at hi; exact hi.1), fun y z hy hb hz => ?_⟩
  rw [testBit_dif, Bool.and_eq_true, Bool.not_eq_true'] at hy ⊢
  refine ⟨h.2 y z hy.1 hb hz, ?_⟩
  rcases Bool.eq_false_or_eq_true (p.testBit z) with e | e
  · have hys := h.1 y hy.1
    have hn : (nbrs Q p).testBit y = true := testBit_nbrs.2 ⟨z, bit_lt (k := 7) h7 hz, e, by rw [hg.sym]; exact hb⟩
    have : (step Q S p).testBit y = true := by rw [testBit_step, hn, hys]; simp
    rw [hp, hy.2] at this; cases this
  · exact e
/-- The lowest vertex of a set, as a set. -/
def low (s : Nat) : Nat := 2 ^ (listOf s).getD 0 0
theorem low_bit : ∀ s, s < 128 → s ≠ 0 → s.testBit ((listOf s).getD 0 0) = true := by decide
theorem low_sub {s : Nat} (h : s < 128) (h0 : s ≠ 0) : sub (low s) s := fun i hi => by
  rw [low, Nat.testBit_two_pow] at hi
  have : (listOf s).getD 0 0 = i := by simpa using hi
  rw [← this]; exact low_bit s h h0
theorem low_ne (s : Nat) : low s ≠ 0 := Nat.ne_of_gt (Nat.two_pow_pos _)
/-- The parts of what is left. -/
def partsK (Q : List Nat) (n S : Nat) : Nat → Nat → List Nat
  | 0, _ => []
  | f + 1, L => if L = 0 then [] else part Q n S (low L) :: partsK Q n S f (dif L (part Q n S (low L)))
def partsOf (Q : List Nat) (n S : Nat) : List Nat := partsK Q n S S S
theorem dif_part_lt {Q : List Nat} {n S L : Nat} (hc : closed Q S L) (hS : S < 128) (h0 : L ≠ 0) : dif L (part Q n S (low L)) < L := by
  have hL : L < 128 := Nat.lt_of_le_of_lt (sub_le hc.1) hS
  have hl := low_sub hL h0
  refine Nat.lt_of_le_of_ne (dif_le _ _) fun e => ?_
  have hb := low_bit L hL h0
  have hp : (part Q n S (low L)).testBit ((listOf L).getD 0 0) = true := grow_from (sub_trans hl hc.1) n _ (by rw [low, Nat.testBit_two_pow]; simp)
  have := congrArg (fun y => y.testBit ((listOf L).getD 0 0)) e
  simp only [testBit_dif, hb, hp] at this
  cases this
theorem partsK_fuel {n : Nat} {Q : List Nat} {S : Nat} (hg : GOk n Q) (hS : S < 2 ^ n) : ∀ f g L, closed Q S L → L ≤ f → L ≤ g → partsK Q n S f L = partsK Q n S g L
  | 0, 0, _, _, _, _ => rfl
  | 0, g + 1, L, _, hf, _ => by
    have : L = 0 := by omega
    subst this; simp [partsK]
  | f + 1, 0, L, _, _, hg' => by
    have : L = 0 := by omega
    subst this; simp [partsK]
  | f + 1, g + 1, L, hc, hf, hg' => by
    have hS7 : S < 128 := Nat.lt_of_lt_of_le hS (Nat.pow_le_pow_right (n := 2) (by omega) hg.le)
    rw [partsK, partsK]
    by_cases h0 : L = 0
    · rw [if_pos h0, if_pos h0]
    · rw [if_neg h0, if_neg h0]
      have hL : L < 128 := Nat.lt_of_le_of_lt (sub_le hc.1) hS7
      have hfix := part_fixed (Q := Q) hg.le hS (sub_trans (low_sub hL h0) hc.1) (low_ne L)
      have hlt := dif_part_lt (n := n) hc hS7 h0
      rw [partsK_fuel hg hS f g _ (closed_dif hg hS7 hc hfix) (by omega) (by omega)]
theorem partsK_step {n : Nat} {Q : List Nat} {S L : Nat} (hg : GOk n Q) (hS : S < 2 ^ n) (hc : closed Q S L) (h0 : L ≠ 0) :
    partsK Q n S L L = part Q n S (low L) :: partsK Q n S (dif L (part Q n S (low L))) (dif L (part Q n S (low L))) := by
  have hS7 : S < 128 := Nat.lt_of_lt_of_le hS (Nat.pow_le_pow_right (n := 2) (by omega) hg.le)
  have hL : L < 128 := Nat.lt_of_le_of_lt (sub_le hc.1) hS7
  have hfix := part_fixed (Q := Q) hg.le hS (sub_trans (low_sub hL h0) hc.1) (low_ne L)
  have hlt := dif_part_lt (n := n) hc hS7 h0
  obtain ⟨f, hf⟩ : ∃ f, L = f + 1 := ⟨L - 1, by omega⟩
  conv => lhs; rw [show partsK Q n S L L = partsK Q n S (f + 1) L by rw [← hf]]
  rw [partsK, if_neg h0, partsK_fuel hg hS f _ _ (closed_dif hg hS7 hc hfix) (by omega) (Nat.le_refl _)]
end Go.Proofs.Ytlcmfangecbdgaa
