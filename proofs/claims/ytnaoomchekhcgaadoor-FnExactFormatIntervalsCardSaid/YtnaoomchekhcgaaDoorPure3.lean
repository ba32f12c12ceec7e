/- The plain notions of chapter 3 (sets of vertices as bits), with no program in sight. -/
import Derived.Test.YtnaoomchekhcgaaDoorPure2
namespace Go.Proofs.YtnaoomchekhcgaaDoor

/-- a without b. -/
def dif (a b : Nat) : Nat := a ^^^ (a &&& b)
theorem testBit_dif (a b i : Nat) : (dif a b).testBit i = (a.testBit i && !b.testBit i) := by
  simp only [dif, Nat.testBit_xor, Nat.testBit_and]
  cases a.testBit i <;> cases b.testBit i <;> rfl
theorem dif_le (a b : Nat) : dif a b ≤ a := by
  apply Nat.le_of_testBit
  intro i h
  rw [testBit_dif] at h
  simp only [Bool.and_eq_true] at h
  exact h.1
theorem bit_lt {a k i : Nat} (ha : a < 2 ^ k) (h : a.testBit i = true) : i < k := by
  rcases Nat.lt_or_ge i k with h' | h'
  · exact h'
  · rw [Nat.testBit_lt_two_pow (Nat.lt_of_lt_of_le ha (Nat.pow_le_pow_right (by omega) h'))] at h; cases h
theorem bits_ext {a b k : Nat} (ha : a < 2 ^ k) (hb : b < 2 ^ k) (h : ∀ i, i < k → a.testBit i = b.testBit i) : a = b := by
  apply Nat.eq_of_testBit_eq
  intro i
  rcases Nat.lt_or_ge i k with hi | hi
  · exact h i hi
  · rw [Nat.testBit_lt_two_pow (Nat.lt_of_lt_of_le ha (Nat.pow_le_pow_right (by omega) hi)), Nat.testBit_lt_two_pow (Nat.lt_of_lt_of_le hb (Nat.pow_le_pow_right (by omega) hi))]

theorem add_of_and {a b : Nat} (h : a &&& b = 0) : a + b = a ||| b := by
  have key : ∀ k, a < 2 ^ k → b < 2 ^ k → a + b = a ||| b := by
    intro k ha hb
    have ha' : a < 2 ^ (k + 1) := by rw [Nat.pow_succ]; omega
    have hb' : b < 2 ^ (k + 1) := by rw [Nat.pow_succ]; omega
    have e := BitVec.add_eq_or_of_and_eq_zero (BitVec.ofNat (k + 1) a) (BitVec.ofNat (k + 1) b) (by
      apply BitVec.eq_of_toNat_eq
      simp [BitVec.toNat_and, Nat.mod_eq_of_lt ha', Nat.mod_eq_of_lt hb', h])
    have e2 := congrArg BitVec.toNat e
    simp only [BitVec.toNat_add, BitVec.toNat_or, BitVec.toNat_ofNat, Nat.mod_eq_of_lt ha', Nat.mod_eq_of_lt hb'] at e2
    rwa [Nat.mod_eq_of_lt (by rw [Nat.pow_succ]; omega)] at e2
  exact key (a + b) (Nat.lt_of_le_of_lt (Nat.le_add_right _ _) Nat.lt_two_pow_self) (Nat.lt_of_le_of_lt (Nat.le_add_left _ _) Nat.lt_two_pow_self)
/-- The members of a set below k, in ascending order. -/
def listK (s k : Nat) : List Nat := (List.range k).filter fun v => s.testBit v
def listOf (s : Nat) : List Nat := listK s 7
theorem listK_succ (s k : Nat) : listK s (k + 1) = listK s k ++ if s.testBit k then [k] else [] := by
  simp only [listK, List.range_succ, List.filter_append, List.filter_cons, List.filter_nil]
theorem listK_yes {s k : Nat} (h : s.testBit k = true) : listK s (k + 1) = listK s k ++ [k] := by rw [listK_succ, if_pos h]
theorem listK_no {s k : Nat} (h : s.testBit k = false) : listK s (k + 1) = listK s k := by rw [listK_succ, h]; simp
theorem listK_len (s k : Nat) : (listK s k).length ≤ k := by
  have := List.length_filter_le (fun v => s.testBit v) (List.range k)
  simpa [listK] using this
theorem mem_listK {s k v : Nat} : v ∈ listK s k ↔ v < k ∧ s.testBit v = true := by simp [listK]
theorem mem_listOf {s v : Nat} : v ∈ listOf s ↔ v < 7 ∧ s.testBit v = true := mem_listK
theorem listOf_len (s : Nat) : (listOf s).length ≤ 7 := listK_len s 7
theorem listOf_at {s k : Nat} (h : k < (listOf s).length) : (listOf s).getD k 0 < 7 ∧ s.testBit ((listOf s).getD k 0) = true := by
  have : (listOf s)[k] ∈ listOf s := List.getElem_mem h
  simpa [List.getD, List.getElem?_eq_getElem h] using mem_listOf.1 this
/-- How many members. -/
def card (s : Nat) : Nat := (listOf s).length

def isSet (n : Int) (X : List Int) (s : Int) : Bool := isGraph n X && decide (0 ≤ s) && decide (s < (2 ^ X.length : Nat))
theorem isSet_no {n : Int} {X : List Int} {s : Int} (h : isGraph n X = false) : isSet n X s = false := by simp [isSet, h]
theorem isSet_iff {n : Int} {X : List Int} {s : Int} (h : isGraph n X = true) : isSet n X s = true ↔ 0 ≤ s ∧ s < (2 ^ X.length : Nat) := by
  simp only [isSet, h, Bool.true_and, Bool.and_eq_true, decide_eq_true_eq]

/-- The neighbours of the members of a list. -/
def nbrL (Q : List Nat) (l : List Nat) : Nat := l.foldl (fun a v => a ||| nb Q v) 0
def nbrs (Q : List Nat) (s : Nat) : Nat := nbrL Q (listOf s)
theorem nbrL_snoc (Q : List Nat) (l : List Nat) (v : Nat) : nbrL Q (l ++ [v]) = nbrL Q l ||| nb Q v := by simp [nbrL]
theorem nbrL_lt {n : Nat} {Q : List Nat} (h : GOk n Q) (l : List Nat) : nbrL Q l < 2 ^ n := by
  have : ∀ (l : List Nat) (a : Nat), a < 2 ^ n → l.foldl (fun a v => a ||| nb Q v) a < 2 ^ n := by
    intro l
    induction l with
    | nil => intro a ha; exact ha
    | cons v l ih => intro a ha; exact ih _ (Nat.or_lt_two_pow ha (h.lt v))
  exact this l 0 (Nat.two_pow_pos _)
theorem testBit_nbrL (Q : List Nat) (l : List Nat) (i : Nat) : (nbrL Q l).testBit i = l.any fun v => (nb Q v).testBit i := by
  have : ∀ (l : List Nat) (a : Nat), (l.foldl (fun a v => a ||| nb Q v) a).testBit i = (a.testBit i || l.any fun v => (nb Q v).testBit i) := by
    intro l
    induction l with
    | nil => intro a; simp
    | cons v l ih => intro a; simp only [List.foldl_cons, ih, Nat.testBit_or, List.any_cons, Bool.or_assoc]
  rw [nbrL, this]
  simp
theorem nbrs_lt {n : Nat} {Q : List Nat} (h : GOk n Q) (s : Nat) : nbrs Q s < 2 ^ n := nbrL_lt h _
theorem testBit_nbrs {Q : List Nat} {s i : Nat} : (nbrs Q s).testBit i = true ↔ ∃ v, v < 7 ∧ s.testBit v = true ∧ (nb Q v).testBit i = true := by
  rw [nbrs, testBit_nbrL]
  simp only [List.any_eq_true, mem_listOf]
  constructor
  · rintro ⟨v, ⟨h1, h2⟩, h3⟩; exact ⟨v, h1, h2, h3⟩
  · rintro ⟨v, h1, h2, h3⟩; exact ⟨v, ⟨h1, h2⟩, h3⟩

/-- Vertex v of the set s has all others of s as neighbours. -/
def clqAt (Q : List Nat) (s v : Nat) : Bool := dif s (nb Q v) == 2 ^ v
/-- Any two members of s are neighbours. -/
def clq (Q : List Nat) (s : Nat) : Bool := (listOf s).all fun v => clqAt Q s v
theorem clq_true {Q : List Nat} {s : Nat} (h : ∀ j, j < (listOf s).length → clqAt Q s ((listOf s).getD j 0) = true) : clq Q s = true := by
  rw [clq, List.all_eq_true]
  intro v hv
  obtain ⟨j, hj, rfl⟩ := List.mem_iff_getElem.1 hv
  simpa [List.getD, List.getElem?_eq_getElem hj] using h j hj
theorem clq_false {Q : List Nat} {s v : Nat} (h : v ∈ listOf s) (hv : clqAt Q s v = false) : clq Q s = false := by
  rw [← Bool.not_eq_true]
  intro e
  rw [clq, List.all_eq_true] at e
  rw [e v h] at hv
  cases hv
theorem clq_iff {Q : List Nat} {s : Nat} : clq Q s = true ↔ ∀ v, v < 7 → s.testBit v = true → clqAt Q s v = true := by
  rw [clq, List.all_eq_true]
  simp only [mem_listOf]
  exact ⟨fun h v h1 h2 => h v ⟨h1, h2⟩, fun h v ⟨h1, h2⟩ => h v h1 h2⟩
theorem sub_bit {s v : Nat} (h : s.testBit v = true) : 2 ^ v ≤ s ∧ s - 2 ^ v = dif s (2 ^ v) := by
  have h1 : dif s (2 ^ v) + 2 ^ v = s := by
    have hd : (dif s (2 ^ v)) &&& 2 ^ v = 0 := by
      apply Nat.eq_of_testBit_eq
      intro i
      rw [Nat.testBit_and, testBit_dif, Nat.zero_testBit]
      cases (2 ^ v).testBit i <;> simp
    have ho : (dif s (2 ^ v)) ||| 2 ^ v = s := by
      apply Nat.eq_of_testBit_eq
      intro i
      rw [Nat.testBit_or, testBit_dif]
      by_cases hi : v = i
      · subst hi; simp [h]
      · simp [hi]
    have := add_of_and hd
    omega
  omega
/-- The reference's test is the program's. -/
theorem clqAt_ref {n : Nat} {Q : List Nat} (h : GOk n Q) {s v : Nat} (hv : s.testBit v = true) : clqAt Q s v = (nb Q v &&& s == s - 2 ^ v) := by
  rw [(sub_bit hv).2, clqAt, Bool.eq_iff_iff, beq_iff_eq, beq_iff_eq]
  constructor
  · intro e
    apply Nat.eq_of_testBit_eq
    intro i
    have := congrArg (fun x => x.testBit i) e
    simp only [testBit_dif, Nat.testBit_two_pow] at this
    rw [Nat.testBit_and, testBit_dif, Nat.testBit_two_pow]
    by_cases hi : v = i
    · subst hi; simp [h.irr]
    · simp only [hi, decide_false] at this ⊢
      revert this
      cases s.testBit i <;> cases (nb Q v).testBit i <;> simp
  · intro e
    apply Nat.eq_of_testBit_eq
    intro i
    have := congrArg (fun x => x.testBit i) e
    simp only [Nat.testBit_and, testBit_dif, Nat.testBit_two_pow] at this
    rw [testBit_dif, Nat.testBit_two_pow]
    by_cases hi : v = i
    · subst hi; simp [h.irr, hv]
    · simp only [hi, decide_false] at this ⊢
      revert this
      cases s.testBit i <;> cases (nb Q v).testBit i <;> simp
/-- No two members of s are neighbours. -/
def indep (Q : List Nat) (s : Nat) : Bool := nbrs Q s &&& s == 0
theorem indep_iff {Q : List Nat} {s : Nat} : indep Q s = true ↔ ∀ v, v < 7 → s.testBit v = true → nb Q v &&& s = 0 := by
  rw [indep, beq_iff_eq]
  constructor
  · intro e v h1 h2
    apply Nat.eq_of_testBit_eq
    intro i
    have := congrArg (fun x => x.testBit i) e
    simp only [Nat.testBit_and, Nat.zero_testBit] at this
    rw [Nat.testBit_and, Nat.zero_testBit]
    rcases Bool.eq_false_or_eq_true ((nb Q v).testBit i) with hb | hb
    · rw [testBit_nbrs.2 ⟨v, h1, h2, hb⟩] at this
      rw [hb]; exact this
    · rw [hb]; rfl
  · intro h
    apply Nat.eq_of_testBit_eq
    intro i
    rw [Nat.testBit_and, Nat.zero_testBit]
    rcases Bool.eq_false_or_eq_true ((nbrs Q s).testBit i) with hb | hb
    · obtain ⟨v, h1, h2, h3⟩ := testBit_nbrs.1 hb
      have := congrArg (fun x => x.testBit i) (h v h1 h2)
      simp only [Nat.testBit_and, Nat.zero_testBit, h3, Bool.true_and] at this
      rw [this, Bool.and_false]
    · rw [hb]; rfl
theorem listK_more {s n : Nat} (hs : s < 2 ^ n) (k : Nat) (hk : n ≤ k) : listK s k = listK s n := by
  induction k with
  | zero => obtain rfl : n = 0 := by omega
            rfl
  | succ k ih =>
    rcases Nat.lt_or_ge k n with h | h
    · obtain rfl : n = k + 1 := by omega
      rfl
    · rw [listK_no (Nat.testBit_lt_two_pow (Nat.lt_of_lt_of_le hs (Nat.pow_le_pow_right (by omega) h))), ih h]
theorem listK_full {s n : Nat} (hs : s < 2 ^ n) (hn : n ≤ 7) : listK s n = listOf s := (listK_more hs 7 hn).symm
/-- A set and the neighbours of its members. -/
def around (Q : List Nat) (s : Nat) : Nat := s ||| nbrs Q s
theorem around_lt {n : Nat} {Q : List Nat} (h : GOk n Q) {s : Nat} (hs : s < 2 ^ n) : around Q s < 2 ^ n := Nat.or_lt_two_pow hs (nbrs_lt h s)
theorem nbrL_yes {Q : List Nat} {s k : Nat} (h : s.testBit k = true) : nbrL Q (listK s (k + 1)) = nbrL Q (listK s k) ||| nb Q k := by rw [listK_yes h, nbrL_snoc]
theorem nbrL_no {Q : List Nat} {s k : Nat} (h : s.testBit k = false) : nbrL Q (listK s (k + 1)) = nbrL Q (listK s k) := by rw [listK_no h]
/-- The first k of a list of vertices. -/
theorem nbrL_take {Q : List Nat} {l : List Nat} {k : Nat} (hk : k < l.length) : nbrL Q (l.take (k + 1)) = nbrL Q (l.take k) ||| nb Q (l.getD k 0) := by
  rw [List.take_succ_eq_append_getElem hk, nbrL_snoc]
  simp [List.getD, List.getElem?_eq_getElem hk]
theorem dif_lt {a b k : Nat} (ha : a < 2 ^ k) : dif a b < 2 ^ k := Nat.lt_of_le_of_lt (dif_le a b) ha

/-! The largest set of a kind, and the maximal cliques. -/
def bestK (P : Nat → Bool) : Nat → Nat
  | 0 => 0
  | k + 1 => if card (bestK P k) < card (k + 1) ∧ P (k + 1) = true then k + 1 else bestK P k
theorem bestK_le (P : Nat → Bool) : ∀ k, bestK P k ≤ k
  | 0 => Nat.le_refl _
  | k + 1 => by
    rw [bestK]
    split
    · exact Nat.le_refl _
    · exact Nat.le_trans (bestK_le P k) (Nat.le_succ _)
theorem bestK_yes {P : Nat → Bool} {k : Nat} (h : card (bestK P k) < card (k + 1)) (hp : P (k + 1) = true) : bestK P (k + 1) = k + 1 := by rw [bestK, if_pos ⟨h, hp⟩]
theorem bestK_few {P : Nat → Bool} {k : Nat} (h : ¬ card (bestK P k) < card (k + 1)) : bestK P (k + 1) = bestK P k := by rw [bestK, if_neg fun e => h e.1]
theorem bestK_not {P : Nat → Bool} {k : Nat} (h : P (k + 1) = false) : bestK P (k + 1) = bestK P k := by rw [bestK, if_neg fun e => by rw [h] at e; exact Bool.false_ne_true e.2]
theorem bestK_congr {P P' : Nat → Bool} : ∀ k, (∀ s, s ≤ k → P s = P' s) → bestK P k = bestK P' k
  | 0, _ => rfl
  | k + 1, h => by rw [bestK, bestK, bestK_congr k (fun s hs => h s (by omega)), h (k + 1) (Nat.le_refl _)]
theorem card_le (s : Nat) : card s ≤ 7 := listOf_len s

/-- Vertex v does not stand against the clique s being maximal. -/
def stands (Q : List Nat) (s v : Nat) : Bool := s.testBit v || dif s (nb Q v) != 0
def standsK (Q : List Nat) (s : Nat) : Nat → Bool
  | 0 => true
  | v + 1 => standsK Q s v && stands Q s v
def maxi (Q : List Nat) (n s : Nat) : Bool := clq Q s && standsK Q s n
theorem maxi_no {Q : List Nat} {n s : Nat} (h : clq Q s = false) : maxi Q n s = false := by rw [maxi, h]; rfl
theorem maxi_yes {Q : List Nat} {n s : Nat} (h : clq Q s = true) : maxi Q n s = standsK Q s n := by rw [maxi, h]; rfl
/-- The maximal cliques among the sets 1 to k. -/
def maxK (Q : List Nat) (n : Nat) : Nat → List Nat
  | 0 => []
  | k + 1 => maxK Q n k ++ if maxi Q n (k + 1) = true then [k + 1] else []
theorem maxK_yes {Q : List Nat} {n k : Nat} (h : maxi Q n (k + 1) = true) : maxK Q n (k + 1) = maxK Q n k ++ [k + 1] := by rw [maxK, if_pos h]
theorem maxK_no {Q : List Nat} {n k : Nat} (h : maxi Q n (k + 1) = false) : maxK Q n (k + 1) = maxK Q n k := by rw [maxK, h]; simp
theorem maxK_len (Q : List Nat) (n : Nat) : ∀ k, (maxK Q n k).length ≤ k
  | 0 => Nat.le_refl _
  | k + 1 => by
    have := maxK_len Q n k
    rw [maxK]
    split <;> simp <;> omega
def maxCliques (Q : List Nat) (n : Nat) : List Nat := maxK Q n (2 ^ n - 1)
theorem mem_maxK {Q : List Nat} {n s : Nat} : ∀ {k}, s ∈ maxK Q n k → 1 ≤ s ∧ s ≤ k ∧ maxi Q n s = true
  | 0, h => by cases h
  | k + 1, h => by
    rw [maxK, List.mem_append] at h
    rcases h with h | h
    · have := mem_maxK h
      exact ⟨this.1, Nat.le_succ_of_le this.2.1, this.2.2⟩
    · split at h
      · rename_i hm
        obtain rfl : s = k + 1 := by simpa using h
        exact ⟨by omega, Nat.le_refl _, hm⟩
      · cases h
theorem dif_zero {s r : Nat} : (dif s r != 0) = (r &&& s != s) := by
  rw [Bool.eq_iff_iff, bne_iff_ne, bne_iff_ne]
  refine not_congr ?_
  constructor
  · intro e
    apply Nat.eq_of_testBit_eq
    intro i
    have := congrArg (fun x => x.testBit i) e
    simp only [testBit_dif, Nat.zero_testBit] at this
    rw [Nat.testBit_and]
    revert this
    cases s.testBit i <;> cases r.testBit i <;> simp
  · intro e
    apply Nat.eq_of_testBit_eq
    intro i
    have := congrArg (fun x => x.testBit i) e
    simp only [Nat.testBit_and] at this
    rw [testBit_dif, Nat.zero_testBit]
    revert this
    cases s.testBit i <;> cases r.testBit i <;> simp
end Go.Proofs.YtnaoomchekhcgaaDoor
