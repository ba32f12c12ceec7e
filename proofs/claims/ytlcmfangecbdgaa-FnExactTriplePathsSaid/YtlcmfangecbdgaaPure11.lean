/- Chapter 11, plain: the shortest path that avoids a vertex and its neighbours. No program in sight. -/
import Derived.Test.YtlcmfangecbdgaaPure3b
import Derived.Test.YtlcmfangecbdgaaPure2b
import Derived.Test.YtlcmfangecbdgaaPure12
namespace Go.Proofs.Ytlcmfangecbdgaa
/-- What is met at step k, and not before. -/
def lay (Q : List Nat) (S x : Nat) : Nat → Nat
  | 0 => x
  | k + 1 => dif (grow Q S x (k + 1)) (grow Q S x k)
theorem grow_step {Q : List Nat} {S x : Nat} (h : sub x S) (k : Nat) : sub (grow Q S x k) (grow Q S x (k + 1)) := sub_step (grow_sub h k)
theorem grow_mono {Q : List Nat} {S x : Nat} (h : sub x S) {j k : Nat} (hjk : j ≤ k) : sub (grow Q S x j) (grow Q S x k) := by
  induction k with
  | zero => obtain rfl : j = 0 := by omega
            exact fun _ h => h
  | succ k ih =>
    rcases Nat.lt_or_ge j (k + 1) with h' | h'
    · exact sub_trans (ih (by omega)) (grow_step h k)
    · obtain rfl : j = k + 1 := by omega
      exact fun _ h => h
theorem testBit_lay {Q : List Nat} {S x : Nat} (h : sub x S) {k v : Nat} : (lay Q S x k).testBit v = true ↔ (grow Q S x k).testBit v = true ∧ ∀ j, j < k → (grow Q S x j).testBit v = false := by
  cases k with
  | zero => exact ⟨fun hv => ⟨hv, fun j hj => absurd hj (by omega)⟩, fun hv => hv.1⟩
  | succ k =>
    rw [lay, testBit_dif, Bool.and_eq_true, Bool.not_eq_true']
    refine and_congr_right fun _ => ⟨fun hk j hj => ?_, fun hj => hj k (by omega)⟩
    rcases Bool.eq_false_or_eq_true ((grow Q S x j).testBit v) with e | e
    · rw [grow_mono h (by omega : j ≤ k) v e] at hk; cases hk
    · exact e
/-- The next layer, from the last one alone. -/
theorem lay_next {n : Nat} {Q : List Nat} {S x : Nat} (hg : GOk n Q) (_hS : S < 2 ^ n) (h : sub x S) (k : Nat) : dif (nbrs Q (lay Q S x k) &&& S) (grow Q S x k) = lay Q S x (k + 1) := by
  have _h7 := hg.le
  apply Nat.eq_of_testBit_eq
  intro i
  rw [lay, testBit_dif, testBit_dif, Nat.testBit_and]
  show _ = ((step Q S (grow Q S x k)).testBit i && _)
  rw [testBit_step]
  rcases Bool.eq_false_or_eq_true ((grow Q S x k).testBit i) with e | e
  · rw [e]; simp
  · rw [e]
    simp only [Bool.false_or, Bool.not_false, Bool.and_true]
    rcases Bool.eq_false_or_eq_true (S.testBit i) with es | es
    · rw [es, Bool.and_true, Bool.and_true, Bool.eq_iff_iff, testBit_nbrs, testBit_nbrs]
      constructor
      · rintro ⟨v, hv, hl, hb⟩
        exact ⟨v, hv, ((testBit_lay h).1 hl).1, hb⟩
      · rintro ⟨v, hv, hl, hb⟩
        refine ⟨v, hv, (testBit_lay h).2 ⟨hl, fun j hj => ?_⟩, hb⟩
        rcases Bool.eq_false_or_eq_true ((grow Q S x j).testBit v) with ev | ev
        · exfalso
          have : (grow Q S x (j + 1)).testBit i = true := by
            show (step Q S (grow Q S x j)).testBit i = true
            rw [testBit_step, testBit_nbrs.2 ⟨v, hv, ev, hb⟩, es]; simp
          rw [grow_mono h (by omega : j + 1 ≤ k) i this] at e
          cases e
        · exact ev
    · rw [es]; simp
theorem grow_lay {Q : List Nat} {S x : Nat} (h : sub x S) (k : Nat) : grow Q S x k ||| lay Q S x (k + 1) = grow Q S x (k + 1) := by
  apply Nat.eq_of_testBit_eq
  intro i
  rw [Nat.testBit_or, lay, testBit_dif]
  have := grow_step (Q := Q) h k i
  revert this
  cases (grow Q S x k).testBit i <;> cases (grow Q S x (k + 1)).testBit i <;> simp
theorem grow_lt {n : Nat} {Q : List Nat} {S x : Nat} (hS : S < 2 ^ n) (h : sub x S) (k : Nat) : grow Q S x k < 2 ^ n := Nat.lt_of_le_of_lt (sub_le (grow_sub h k)) hS
theorem lay_lt {n : Nat} {Q : List Nat} {S x : Nat} (hS : S < 2 ^ n) (h : sub x S) : ∀ k, lay Q S x k < 2 ^ n
  | 0 => grow_lt (Q := Q) hS h 0
  | k + 1 => dif_lt (grow_lt hS h (k + 1))
/-- No more is met. -/
theorem grow_end {Q : List Nat} {S x k : Nat} (h : sub x S) (h0 : lay Q S x (k + 1) = 0) : ∀ j, k ≤ j → grow Q S x j = grow Q S x k := by
  have e : step Q S (grow Q S x k) = grow Q S x k := by
    have := grow_lay (Q := Q) h k
    rw [h0, Nat.or_zero] at this
    exact this.symm
  intro j hj
  have := grow_fix e (j - k)
  have e2 : k + (j - k) = j := by omega
  rwa [e2] at this
/-- What is met at all is met before step n. -/
theorem grow_all {Q : List Nat} {n S x : Nat} (h7 : n ≤ 7) (hS : S < 2 ^ n) (hx : sub x S) (h0 : x ≠ 0) {k v : Nat} (hv : (grow Q S x k).testBit v = true) : (grow Q S x (n - 1)).testBit v = true := by
  obtain ⟨j, hj, e⟩ := exists_fix (Q := Q) h7 hS hx h0
  rcases Nat.le_total k (n - 1) with hk | hk
  · exact grow_mono hx hk v hv
  · have h1 := grow_fix e (k - j)
    have h2 := grow_fix e (n - 1 - j)
    have e1 : j + (k - j) = k := by omega
    have e2 : j + (n - 1 - j) = n - 1 := by omega
    rw [e1] at h1
    rw [e2] at h2
    rw [h2, ← h1]; exact hv
/-- The first of k steps at which v is met, -1 if there is none. -/
def farK (Q : List Nat) (S x v : Nat) : Nat → Int
  | 0 => -1
  | k + 1 => if farK Q S x v k < 0 ∧ (grow Q S x k).testBit v = true then (k : Int) else farK Q S x v k
theorem farK_cases (Q : List Nat) (S x v : Nat) : ∀ k, (farK Q S x v k = -1 ∧ ∀ j, j < k → (grow Q S x j).testBit v = false) ∨ ∃ i, i < k ∧ farK Q S x v k = (i : Int) ∧ (grow Q S x i).testBit v = true ∧ ∀ j, j < i → (grow Q S x j).testBit v = false
  | 0 => .inl ⟨rfl, fun j hj => absurd hj (by omega)⟩
  | k + 1 => by
    rw [farK]
    rcases farK_cases Q S x v k with ⟨h1, h3⟩ | ⟨i, h1, h2, h3, h4⟩
    · rcases Bool.eq_false_or_eq_true ((grow Q S x k).testBit v) with e | e
      · rw [if_pos ⟨by omega, e⟩]
        exact .inr ⟨k, by omega, rfl, e, h3⟩
      · rw [e, if_neg (by simp)]
        refine .inl ⟨h1, fun j hj => ?_⟩
        rcases Nat.lt_succ_iff_lt_or_eq.1 hj with h' | rfl
        · exact h3 j h'
        · exact e
    · rw [if_neg (by omega)]
      exact .inr ⟨i, by omega, h2, h3, h4⟩
theorem farK_iff {Q : List Nat} {S x v k d : Nat} (h : sub x S) (hd : d < k) : farK Q S x v k = (d : Int) ↔ (lay Q S x d).testBit v = true := by
  rw [testBit_lay h]
  rcases farK_cases Q S x v k with ⟨h1, h3⟩ | ⟨i, h1, h2, h3, h4⟩
  · rw [h1]
    constructor
    · intro e; omega
    · rintro ⟨e, _⟩; rw [h3 d hd] at e; cases e
  · rw [h2]
    constructor
    · intro e
      obtain rfl : i = d := by omega
      exact ⟨h3, h4⟩
    · rintro ⟨e1, e2⟩
      rcases Nat.lt_trichotomy i d with hlt | rfl | hlt
      · rw [e2 i hlt] at h3; cases h3
      · rfl
      · rw [h4 d hlt] at e1; cases e1
theorem farK_range (Q : List Nat) (S x v k : Nat) : -1 ≤ farK Q S x v k ∧ farK Q S x v k < k := by
  rcases farK_cases Q S x v k with ⟨h, _⟩ | ⟨i, h1, h2, _⟩ <;> omega
/-- The least vertex of a set. -/
def fst1 (s : Nat) : Nat := nb (listOf s) 0
theorem fst1_bit {s : Nat} (h : s < 128) (h0 : s ≠ 0) : s.testBit (fst1 s) = true := low_bit s h h0
theorem fst1_lt7 {s : Nat} (h : s < 128) (h0 : s ≠ 0) : fst1 s < 7 := bit_lt (k := 7) h (fst1_bit h h0)
theorem listOf_pos {s : Nat} (h : s < 128) (h0 : s ≠ 0) : 0 < (listOf s).length := card_pos s h h0
theorem fst1_least : ∀ s, s < 128 → ∀ u, u < fst1 s → s.testBit u = false := by
  intro s hs u hu
  rcases Bool.eq_false_or_eq_true (s.testBit u) with e | e
  · exfalso
    have hu7 := bit_lt (k := 7) hs e
    have key : ∀ k, k ≤ 7 → ∀ j, j < (listK s k).length → u < nb (listK s k) j → u < k → (∀ i, i < u → True) → (∃ i, i < j ∧ nb (listK s k) i = u) := by
      intro k _ j hj hlt huk _
      have hm : u ∈ listK s k := mem_listK.2 ⟨huk, e⟩
      obtain ⟨i, hi, he⟩ := List.mem_iff_getElem.1 hm
      have hp : (listK s k).Pairwise (· < ·) := List.Pairwise.filter _ List.pairwise_lt_range
      have e1 : nb (listK s k) i = u := by simp [nb, List.getD, List.getElem?_eq_getElem hi, he]
      have e2 : nb (listK s k) j = (listK s k)[j] := by simp [nb, List.getD, List.getElem?_eq_getElem hj]
      refine ⟨i, ?_, e1⟩
      rcases Nat.lt_trichotomy i j with h | rfl | h
      · exact h
      · omega
      · have := List.pairwise_iff_getElem.1 hp j i hj hi h
        omega
    have h0 : s ≠ 0 := fun h => by rw [h, Nat.zero_testBit] at e; cases e
    obtain ⟨i, hi, _⟩ := key 7 (by omega) 0 (listOf_pos hs h0) hu hu7 (fun _ _ => trivial)
    omega
  · exact e
/-- From a vertex of layer d on to layer 0. -/
def pathL (Q : List Nat) (S x : Nat) : Nat → Nat → List Nat
  | 0, _ => []
  | d + 1, u => fst1 (nb Q u &&& lay Q S x d) :: pathL Q S x d (fst1 (nb Q u &&& lay Q S x d))
theorem pathL_len (Q : List Nat) (S x : Nat) : ∀ d u, (pathL Q S x d u).length = d
  | 0, _ => rfl
  | d + 1, u => by rw [pathL, List.length_cons, pathL_len Q S x d]
theorem lay_nonempty {n : Nat} {Q : List Nat} {S x : Nat} (hg : GOk n Q) (hS : S < 2 ^ n) (h : sub x S) {d u : Nat} (hu : (lay Q S x (d + 1)).testBit u = true) : nb Q u &&& lay Q S x d ≠ 0 := by
  rw [← lay_next hg hS h d, testBit_dif, Bool.and_eq_true, Nat.testBit_and, Bool.and_eq_true] at hu
  obtain ⟨v, _, hv, hb⟩ := testBit_nbrs.1 hu.1.1
  intro e
  have := congrArg (fun y => y.testBit v) e
  simp only [Nat.testBit_and, Nat.zero_testBit, hv, hg.sym u v, hb] at this
  cases this
theorem lay_step {n : Nat} {Q : List Nat} {S x : Nat} (hg : GOk n Q) (hS : S < 2 ^ n) (h : sub x S) {d u : Nat} (hu : (lay Q S x (d + 1)).testBit u = true) :
    (lay Q S x d).testBit (fst1 (nb Q u &&& lay Q S x d)) = true ∧ edge Q u (fst1 (nb Q u &&& lay Q S x d)) = true ∧ fst1 (nb Q u &&& lay Q S x d) < n := by
  have hs : nb Q u &&& lay Q S x d < 2 ^ n := Nat.lt_of_le_of_lt Nat.and_le_left (hg.lt u)
  have hs7 : nb Q u &&& lay Q S x d < 128 := Nat.lt_of_lt_of_le hs (Nat.pow_le_pow_right (n := 2) (by omega) hg.le)
  have hb := fst1_bit hs7 (lay_nonempty hg hS h hu)
  have := bit_lt hs hb
  rw [Nat.testBit_and, Bool.and_eq_true] at hb
  exact ⟨hb.2, hb.1, this⟩
/-- What is not a neighbour of c, nor c. -/
def awayS (Q : List Nat) (n c : Nat) : Nat := dif (dif (2 ^ n - 1) (nb Q c)) (2 ^ c)
theorem awayS_lt (Q : List Nat) (n c : Nat) : awayS Q n c < 2 ^ n := dif_lt (dif_lt (by have := Nat.two_pow_pos n; omega))
theorem nbrs_one {n c : Nat} (Q : List Nat) (hc : c < n) (h7 : n ≤ 7) : nbrs Q (2 ^ c) = nb Q c := by
  apply Nat.eq_of_testBit_eq
  intro i
  rw [Bool.eq_iff_iff, testBit_nbrs]
  constructor
  · rintro ⟨v, _, hv, hb⟩
    rw [Nat.testBit_two_pow] at hv
    obtain rfl : c = v := by simpa using hv
    exact hb
  · intro hb
    exact ⟨c, by omega, by rw [Nat.testBit_two_pow]; simp, hb⟩
theorem away_ref {n c : Nat} {Q : List Nat} (hg : GOk n Q) (hc : c < n) : awayS Q n c + around Q (2 ^ c) = 2 ^ n - 1 := by
  rw [around, nbrs_one Q hc hg.le]
  have h0 : awayS Q n c &&& (2 ^ c ||| nb Q c) = 0 := by
    apply Nat.eq_of_testBit_eq
    intro i
    rw [Nat.testBit_and, awayS, testBit_dif, testBit_dif, Nat.testBit_or, Nat.zero_testBit]
    cases (2 ^ n - 1).testBit i <;> cases (nb Q c).testBit i <;> cases (2 ^ c).testBit i <;> rfl
  rw [add_of_and h0]
  apply Nat.eq_of_testBit_eq
  intro i
  have h1 := bit_lt (a := nb Q c) (i := i) (hg.lt c)
  rw [Nat.testBit_or, awayS, testBit_dif, testBit_dif, Nat.testBit_or, Nat.testBit_two_pow_sub_one, Nat.testBit_two_pow]
  by_cases hi : i < n
  · rw [decide_eq_true hi]
    cases (nb Q c).testBit i <;> cases decide (c = i) <;> rfl
  · rw [decide_eq_false hi]
    have : (nb Q c).testBit i = false := by
      rcases Bool.eq_false_or_eq_true ((nb Q c).testBit i) with e | e
      · exact absurd (h1 e) hi
      · exact e
    rw [this, decide_eq_false (by omega : ¬ c = i)]
    rfl
/-- The path, if there is one. -/
def wayOf (Q : List Nat) (n S a b : Nat) : Option (List Nat) :=
  if S.testBit a = true ∧ S.testBit b = true ∧ (grow Q S (2 ^ b) (n - 1)).testBit a = true then some (a :: pathL Q S (2 ^ b) (farK Q S (2 ^ b) a n).toNat a) else none
def avoidOf (N : Int) (X : List Int) (a b c : Int) : Option (List Nat) :=
  if isGraph N X = true ∧ (0 ≤ a ∧ a < N) ∧ (0 ≤ b ∧ b < N) ∧ 0 ≤ c ∧ c < N then wayOf (X.map Int.toNat) N.toNat (awayS (X.map Int.toNat) N.toNat c.toNat) a.toNat b.toNat else none
theorem nats_ints11 (Q : List Nat) : (ints Q).map Int.toNat = Q := by simp [ints, List.map_map, Function.comp_def]
theorem avoidOf_no {N : Int} {X : List Int} {a b c : Int} (h : isGraph N X = false) : avoidOf N X a b c = none := by rw [avoidOf, if_neg fun e => by rw [h] at e; exact Bool.false_ne_true e.1]
theorem avoidOf_out {N : Int} {X : List Int} {a b c : Int} (h : ¬ ((0 ≤ a ∧ a < N) ∧ (0 ≤ b ∧ b < N) ∧ 0 ≤ c ∧ c < N)) : avoidOf N X a b c = none := by rw [avoidOf, if_neg fun e => h e.2]
theorem avoidOf_ok {n a b c : Nat} {Q : List Nat} (h : GOk n Q) (ha : a < n) (hb : b < n) (hc : c < n) : avoidOf n (ints Q) a b c = wayOf Q n (awayS Q n c) a b := by
  rw [avoidOf, if_pos ⟨h.is, ⟨by omega, by omega⟩, ⟨by omega, by omega⟩, by omega, by omega⟩, nats_ints11]
  simp only [Int.toNat_natCast]
theorem wayOf_out {Q : List Nat} {n S a b : Nat} (h : S.testBit a = false ∨ S.testBit b = false) : wayOf Q n S a b = none := by
  rw [wayOf, if_neg]
  rintro ⟨h1, h2, _⟩
  rcases h with h | h
  · rw [h] at h1; cases h1
  · rw [h] at h2; cases h2
theorem bit_sub {S b : Nat} (h : S.testBit b = true) : sub (2 ^ b) S := fun i hi => by
  rw [Nat.testBit_two_pow] at hi
  obtain rfl : b = i := by simpa using hi
  exact h
theorem wayOf_none {Q : List Nat} {n S a b k : Nat} (h7 : n ≤ 7) (hS : S < 2 ^ n) (hb : S.testBit b = true) (h0 : lay Q S (2 ^ b) (k + 1) = 0) (ha : (grow Q S (2 ^ b) k).testBit a = false) : wayOf Q n S a b = none := by
  rw [wayOf, if_neg]
  rintro ⟨_, _, h3⟩
  have hs := bit_sub hb
  have := grow_all (n := n) (k := n - 1) h7 hS hs (Nat.ne_of_gt (Nat.two_pow_pos _)) h3
  rcases Nat.le_total k (n - 1) with hk | hk
  · rw [grow_end hs h0 _ hk, ha] at h3; cases h3
  · rw [grow_mono hs hk a h3] at ha; cases ha
theorem wayOf_far {Q : List Nat} {n S a b : Nat} (h1 : 1 ≤ n) (_hb : S.testBit b = true) (hf : farK Q S (2 ^ b) a n < 0) : wayOf Q n S a b = none := by
  rw [wayOf, if_neg]
  rintro ⟨_, _, h3⟩
  rcases farK_cases Q S (2 ^ b) a n with ⟨_, h⟩ | ⟨i, _, h2, _⟩
  · rw [h (n - 1) (by omega)] at h3; cases h3
  · omega
theorem wayOf_some {Q : List Nat} {n S a b d : Nat} (h7 : n ≤ 7) (hS : S < 2 ^ n) (ha : S.testBit a = true) (hb : S.testBit b = true) (hd : (lay Q S (2 ^ b) d).testBit a = true) : wayOf Q n S a b = some (a :: pathL Q S (2 ^ b) d a) ∧ d < n := by
  have hs := bit_sub hb
  have h1 := (testBit_lay hs).1 hd
  have h2 := grow_all (n := n) h7 hS hs (Nat.ne_of_gt (Nat.two_pow_pos _)) h1.1
  have hdn : d < n := by
    refine Classical.byContradiction fun hn => ?_
    by_cases h0 : n = 0
    · subst h0
      have := bit_lt hS hb
      omega
    · rw [h1.2 (n - 1) (by omega)] at h2; cases h2
  rw [wayOf, if_pos ⟨ha, hb, h2⟩, (farK_iff hs hdn).2 hd, Int.toNat_natCast]
  exact ⟨rfl, hdn⟩
theorem wayOf_len {Q : List Nat} {n S a b : Nat} {r : List Nat} (h : wayOf Q n S a b = some r) (h1 : 1 ≤ n) : 1 ≤ r.length ∧ r.length ≤ n := by
  rw [wayOf] at h
  split at h
  · injection h with h
    subst h
    have := farK_range Q S (2 ^ b) a n
    rw [List.length_cons, pathL_len]
    omega
  · cases h
end Go.Proofs.Ytlcmfangecbdgaa
