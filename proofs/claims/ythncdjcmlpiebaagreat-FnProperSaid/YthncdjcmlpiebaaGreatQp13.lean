/- Chapter 12, plain: both ways come to the same left ends. No program in sight. Chordal graphs of at most six vertices: an order by intervals or a triple; an umbrella order, a claw or a triple: what the run over them says of any such graph. No program in sight. -/
import Derived.Test.YthncdjcmlpiebaaGreatQp05
import Derived.Test.YthncdjcmlpiebaaGreatQp12
namespace Go.Proofs.YthncdjcmlpiebaaGreat
section
variable {J J' : Nat → Nat → Bool} {n : Nat}
theorem slst_congr (h : ∀ i k, i < k → k < n → J i k = J' i k) {i k : Nat} (hi : i < n) (hk : k < n) (x : List Nat) : slst J x i k = slst J' x i k := by
  unfold slst
  by_cases h1 : k < i
  · rw [if_pos h1, if_pos h1, h k i h1 hi]
  · rw [if_neg h1, if_neg h1]
    by_cases h2 : i < k
    · rw [h i k h2 hk]
    · rw [if_neg fun e => h2 e.1, if_neg fun e => h2 e.1]
theorem stK_congr (h : ∀ i k, i < k → k < n → J i k = J' i k) {i : Nat} (hi : i < n) (x : List Nat) : ∀ k, k ≤ n → stK J x i k = stK J' x i k
  | 0, _ => rfl
  | k + 1, hk => by rw [stK, stK, stK_congr h hi x k (by omega), slst_congr h hi (by omega)]
theorem stI_congr (h : ∀ i k, i < k → k < n → J i k = J' i k) (x : List Nat) : ∀ i, i ≤ n → stI J n x i = stI J' n x i
  | 0, _ => rfl
  | i + 1, hi => by rw [stI, stI, stI_congr h x i (by omega), stK_congr h (by omega) _ n (Nat.le_refl _)]
theorem stR_congr (h : ∀ i k, i < k → k < n → J i k = J' i k) : ∀ r, stR J n r = stR J' n r
  | 0 => rfl
  | r + 1 => by rw [stR, stR, stR_congr h r, stI_congr h _ n (Nat.le_refl _)]
theorem rsI_congr (h : ∀ i k, i < k → k < n → J i k = J' i k) {k : Nat} (hk : k < n) (s : List Nat × Bool) : ∀ i, i ≤ k → rsI J s k i = rsI J' s k i
  | 0, _ => rfl
  | i + 1, hi => by rw [rsI, rsI, rsI_congr h hk s i (by omega), rsA, rsA, h i k (by omega) hk]
theorem rsK_congr (h : ∀ i k, i < k → k < n → J i k = J' i k) (s : List Nat × Bool) : ∀ k, k ≤ n → rsK J s k = rsK J' s k
  | 0, _ => rfl
  | k + 1, hk => by rw [rsK, rsK, rsK_congr h s k (by omega), rsI_congr h (by omega) _ k (Nat.le_refl _)]
theorem rsR_congr (h : ∀ i k, i < k → k < n → J i k = J' i k) : ∀ r, rsR J n r = rsR J' n r
  | 0 => rfl
  | r + 1 => by rw [rsR, rsR, rsR_congr h r, rsK_congr h _ n (Nat.le_refl _)]
theorem rsF_congr (h : ∀ i k, i < k → k < n → J i k = J' i k) (r : Nat) : rsF J n r = rsF J' n r := by rw [rsF, rsF, rsR_congr h r, rsK_congr h _ n (Nat.le_refl _)]
end
theorem upF_flag {s : List Nat × Bool} {v l : Nat} (h : (upF s v l).2 = false) : upF s v l = s := by
  unfold upF at h ⊢
  split
  · rename_i hc; rw [if_pos hc] at h; cases h
  · rfl
theorem rsA_flag {J : Nat → Nat → Bool} {s : List Nat × Bool} {k i : Nat} (h : (rsA J s k i).2 = false) : rsA J s k i = s := by
  unfold rsA at h ⊢
  split
  · rename_i hc; rw [if_pos hc] at h; exact upF_flag h
  · rename_i hc; rw [if_neg hc] at h; exact upF_flag h
theorem rsB_flag {s : List Nat × Bool} {k i : Nat} (h : (rsB s k i).2 = false) : rsB s k i = s := by
  unfold rsB at h ⊢
  split
  · rename_i hc; rw [if_pos hc] at h; exact upF_flag h
  · rfl
theorem rsI_flag {J : Nat → Nat → Bool} {s : List Nat × Bool} {k : Nat} : ∀ {i}, (rsI J s k i).2 = false → rsI J s k i = s
  | 0, _ => rfl
  | i + 1, h => by
    rw [rsI] at h ⊢
    have h1 := rsB_flag h
    rw [h1] at h ⊢
    have h2 := rsA_flag h
    rw [h2] at h ⊢
    exact rsI_flag h
theorem rsK_flag {J : Nat → Nat → Bool} {s : List Nat × Bool} : ∀ {k}, (rsK J s k).2 = false → rsK J s k = s
  | 0, _ => rfl
  | k + 1, h => by
    rw [rsK] at h ⊢
    have h1 := rsI_flag h
    rw [h1] at h ⊢
    exact rsK_flag h
theorem rsR_flag {J : Nat → Nat → Bool} {n r : Nat} (h : rsF J n r = false) : rsR J n (r + 1) = rsR J n r := by
  rw [rsR, rsK_flag h]
theorem rsR_stay {J : Nat → Nat → Bool} {n r : Nat} (h : rsR J n (r + 1) = rsR J n r) : ∀ m, r ≤ m → rsR J n m = rsR J n r
  | 0, hm => by obtain rfl : r = 0 := by omega
                rfl
  | m + 1, hm => by
    by_cases e : r = m + 1
    · rw [e]
    · have ih := rsR_stay h m (by omega)
      have h2 : rsR J n (m + 1) = rsR J n (r + 1) := by rw [rsR, rsR, ih]
      rw [h2, h]
theorem stR_stay {J : Nat → Nat → Bool} {n r : Nat} (h : stR J n (r + 1) = stR J n r) : ∀ m, r ≤ m → stR J n m = stR J n r
  | 0, hm => by obtain rfl : r = 0 := by omega
                rfl
  | m + 1, hm => by
    by_cases e : r = m + 1
    · rw [e]
    · have ih := stR_stay h m (by omega)
      have h2 : stR J n (m + 1) = stR J n (r + 1) := by rw [stR, stR, ih]
      rw [h2, h]
def farU (J : Nat → Nat → Bool) (i : Nat) : Nat → Nat
  | 0 => i
  | k + 1 => if i < k ∧ J i k = true then k else farU J i k
theorem farK_ge (J : Nat → Nat → Bool) (i : Nat) : ∀ k, i ≤ farU J i k
  | 0 => Nat.le_refl _
  | k + 1 => by
    rw [farU]
    split
    · omega
    · exact farK_ge J i k
theorem farK_lt {J : Nat → Nat → Bool} {i n : Nat} (hi : i < n) : ∀ k, k ≤ n → farU J i k < n
  | 0, _ => hi
  | k + 1, hk => by
    rw [farU]
    split
    · omega
    · exact farK_lt hi k (by omega)
theorem farK_adj {J : Nat → Nat → Bool} {i : Nat} : ∀ {k}, i < farU J i k → J i (farU J i k) = true
  | 0, h => by rw [farU] at h; omega
  | k + 1, h => by
    rw [farU] at h ⊢
    split
    · rename_i hc; exact hc.2
    · rename_i hc; rw [if_neg hc] at h; exact farK_adj h
theorem le_farK {J : Nat → Nat → Bool} {i j : Nat} : ∀ {k}, j < k → i < j → J i j = true → j ≤ farU J i k
  | 0, h, _, _ => by omega
  | k + 1, h, h1, h2 => by
    rw [farU]
    split
    · omega
    · rename_i hc
      rcases Nat.lt_succ_iff_lt_or_eq.1 h with h | rfl
      · exact le_farK h h1 h2
      · exact absurd ⟨h1, h2⟩ hc
def stairOf (J : Nat → Nat → Bool) (n i : Nat) : List Nat := (List.range i).map fun j => farU J j n
theorem nb_stairOf (J : Nat → Nat → Bool) {n i j : Nat} (h : j < i) : nb (stairOf J n i) j = farU J j n := by
  simp [nb, stairOf, List.getD, List.getElem?_map, List.getElem?_range h]
theorem mem_stairs {J : Nat → Nat → Bool} {n : Nat} (hJ : ∀ i j k, i < j → j < k → k < n → J i k = true → J j k = true) : ∀ i, i ≤ n → stairOf J n i ∈ stairs n i
  | 0, _ => by simp [stairOf, stairs]
  | i + 1, hi => by
    have ih := mem_stairs hJ i (by omega)
    rw [stairs, List.mem_flatMap]
    refine ⟨_, ih, ?_⟩
    rw [List.mem_map]
    refine ⟨farU J i n, ?_, by rw [stairOf, stairOf, List.range_succ, List.map_append]; rfl⟩
    rw [List.mem_filter, List.mem_range]
    refine ⟨farK_lt (by omega) n (Nat.le_refl _), ?_⟩
    rw [Bool.and_eq_true, decide_eq_true_eq, decide_eq_true_eq]
    refine ⟨farK_ge J i n, ?_⟩
    cases i with
    | zero => simp [stairOf]
    | succ i =>
      have e : (stairOf J n (i + 1)).getLast?.getD 0 = farU J i n := by simp [stairOf, List.range_succ]
      rw [e]
      have h1 := farK_ge J (i + 1) n
      rcases Nat.lt_or_ge (i + 1) (farU J i n) with h | h
      · exact le_farK (farK_lt (by omega) n (Nat.le_refl _)) h (hJ i (i + 1) _ (by omega) h (farK_lt (by omega) n (Nat.le_refl _)) (farK_adj (by omega)))
      · omega
/-- Which places of an order are neighbours. -/
def adjP (Q o : List Nat) (i k : Nat) : Bool := edge Q (nb o i) (nb o k)
theorem umb_adj {n : Nat} {Q o : List Nat} (h : GOk n Q) (hl : o.length = n) (hu : umb Q o = true) : (∀ i j k, i < j → j < k → k < n → adjP Q o i k = true → adjP Q o j k = true) ∧ (∀ i j k, i < j → j < k → k < n → adjP Q o i k = true → adjP Q o i j = true) := by
  have hk := fun i j k (hij : i < j) (hjk : j < k) (hkn : k < n) (e : adjP Q o i k = true) => (umbAt_on (j := j) (Q := Q) (o := o) (i := i) (k := k) e).symm.trans (umb_iff.1 hu k (by omega) j hjk i hij)
  refine ⟨fun i j k h1 h2 h3 e => ?_, fun i j k h1 h2 h3 e => ?_⟩
  · have := hk i j k h1 h2 h3 e
    rw [Bool.and_eq_true] at this
    rw [adjP, h.edge_comm]; exact this.2
  · have := hk i j k h1 h2 h3 e
    rw [Bool.and_eq_true] at this
    exact this.1
theorem stair_adj {J : Nat → Nat → Bool} {n : Nat} (hJ2 : ∀ i j k, i < j → j < k → k < n → J i k = true → J i j = true) {i k : Nat} (hik : i < k) (hk : k < n) : J i k = adjS (stairOf J n n) i k := by
  rw [adjS, nb_stairOf J (by omega), Bool.eq_iff_iff, decide_eq_true_eq]
  constructor
  · exact fun e => le_farK hk hik e
  · intro hle
    have h1 := farK_adj (J := J) (i := i) (k := n) (by omega)
    rcases Nat.lt_or_ge k (farU J i n) with h | h
    · exact hJ2 i k _ hik h (farK_lt (by omega) n (Nat.le_refl _)) h1
    · obtain rfl : k = farU J i n := by omega
      exact h1
/-- Both ways end, and come to the same. -/
theorem unit_same {n : Nat} {Q o : List Nat} (h : GOk n Q) (hl : o.length = n) (hu : umb Q o = true) :
    rsF (adjP Q o) n 3 = false ∧ stR (adjP Q o) n (n * n + 1) = rsR (adjP Q o) n 3 := by
  have h7 := h.le
  obtain ⟨h1, h2⟩ := umb_adj h hl hu
  have hc : ∀ i k, i < k → k < n → adjP Q o i k = adjS (stairOf (adjP Q o) n n) i k := fun i k hik hk => stair_adj h2 hik hk
  have hok := all_ok h7 (mem_stairs h1 n (Nat.le_refl _))
  simp only [okS, Bool.and_eq_true, beq_iff_eq] at hok
  obtain ⟨⟨o1, o2⟩, o3⟩ := hok
  refine ⟨by rw [rsF_congr hc]; exact o1, ?_⟩
  rw [stR_congr hc, rsR_congr hc, o3]
  have hst := stR_stay o2
  rcases Nat.lt_or_ge (n * n + 1) 4 with hlt | hge
  · -- n is 1: all is 0
    have hn1 : n = 1 := by
      have := h.pos
      rcases Nat.lt_or_ge n 2 with h3 | h3
      · omega
      · have : 2 * 2 ≤ n * n := Nat.mul_le_mul h3 h3
        omega
    subst hn1
    generalize adjS (stairOf (adjP Q o) 1 1) = K
    show stR K 1 2 = stR K 1 4
    have e : stR K 1 1 = stR K 1 0 := by simp [stR, stI, stK, slst, nb]
    rw [stR_stay e 2 (by omega), stR_stay e 4 (by omega)]
  · exact hst _ hge
end Go.Proofs.YthncdjcmlpiebaaGreat
namespace Go.Proofs.YthncdjcmlpiebaaGreat
theorem nbU_lt {l : List Nat} {v i : Nat} (h : i < l.length) : nb (l ++ [v]) i = nb l i := by
  simp [nb, List.getD, List.getElem?_append_left h]
theorem nbU_at {l : List Nat} {v : Nat} : nb (l ++ [v]) l.length = v := by simp [nb, List.getD]
theorem nbU_map {q : List Nat} {f : Nat → Nat} {i : Nat} (h : i < q.length) : nb (q.map f) i = f (nb q i) := by
  simp [nb, List.getD, List.getElem?_map, List.getElem?_eq_getElem h]
theorem nbU_rev {t : List Nat} {i : Nat} (h : i < t.length) : nb t.reverse i = nb t (t.length - 1 - i) := by
  simp [nb, List.getD, List.getElem?_reverse h]
/-- Whose earlier neighbours are neighbours of each other. -/
def Perf (Q o : List Nat) : Prop := ∀ i j k, i < j → j < k → k < o.length → edge Q (nb o k) (nb o i) = true → edge Q (nb o k) (nb o j) = true → edge Q (nb o i) (nb o j) = true
/-- By left ends: whoever stands between two neighbours is a neighbour of the first. -/
def OrdI (Q q : List Nat) : Prop := ∀ i j k, i < j → j < k → k < q.length → edge Q (nb q i) (nb q k) = true → edge Q (nb q i) (nb q j) = true
/-- .. and of the second. -/
def OrdU (Q q : List Nat) : Prop := ∀ i j k, i < j → j < k → k < q.length → edge Q (nb q i) (nb q k) = true → edge Q (nb q k) (nb q j) = true
theorem elim_perf {n : Nat} {Q t : List Nat} (h : GOk n Q) (ho : natVerts n t) (he : elimAll Q t n = true) : Perf Q t.reverse := by
  intro i j k hij hjk hk e1 e2
  rw [List.length_reverse] at hk
  rw [nbU_rev (by omega), nbU_rev (by omega)] at e1 e2
  rw [nbU_rev (by omega), nbU_rev (by omega)]
  obtain ⟨a, ha⟩ : ∃ a, a = t.length - 1 - i := ⟨_, rfl⟩
  obtain ⟨b, hb⟩ : ∃ b, b = t.length - 1 - j := ⟨_, rfl⟩
  obtain ⟨c, hc⟩ : ∃ c, c = t.length - 1 - k := ⟨_, rfl⟩
  rw [← ha, ← hc] at e1
  rw [← hb, ← hc] at e2
  rw [← ha, ← hb]
  have hab : b < a := by omega
  have hcb : c < b := by omega
  have hat : a < t.length := by omega
  have hv := ho.at_ (j := c) (by omega)
  have h1 := List.all_eq_true.1 he (nb t c) (List.mem_range.2 hv)
  rw [clq_pairs h] at h1
  have hm : ∀ x, c < x → x < t.length → nb t x ∈ t.drop (place t (nb t c)) := fun x hx hxt => by
    rw [place_nb ho (by omega), List.mem_iff_getElem]
    refine ⟨x - c, by rw [List.length_drop]; omega, ?_⟩
    rw [List.getElem_drop]
    have e : c + (x - c) = x := by omega
    simp only [e]
    simp [nb, List.getD, List.getElem?_eq_getElem hxt]
  have hbit : ∀ x, c < x → x < t.length → edge Q (nb t c) (nb t x) = true → (ltr Q t (nb t c)).testBit (nb t x) = true := fun x hx hxt e => by
    rw [ltr, Nat.testBit_and, testBit_setN, decide_eq_true (hm x hx hxt), Bool.and_true]
    exact e
  refine h1 (nb t a) (by have := ho.at_ (j := a) hat; have := h.le; omega) (hbit a (by omega) hat e1) (nb t b) (hbit b hcb (by omega) e2) fun e => ?_
  have := ho.inj (i := b) (j := a) (by omega) hat e
  omega
theorem nb_extG {Q : List Nat} {k c : Nat} (hl : Q.length = k) (i j : Nat) : (nb (extG Q k c) i).testBit j = if i < k then ((nb Q i).testBit j || (c.testBit i && decide (k = j))) else if i = k then c.testBit j else false := by
  unfold nb extG
  rcases Nat.lt_trichotomy i k with h | h | h
  · rw [if_pos h]
    have h' : i < Q.length := by omega
    simp only [List.getD_eq_getElem?_getD]
    rw [List.getElem?_append_left (by rw [List.length_mapIdx]; exact h'), List.getElem?_mapIdx, List.getElem?_eq_getElem h']
    simp only [Option.map_some, Option.getD_some]
    by_cases hc : c.testBit i = true
    · rw [if_pos hc, hc, Nat.testBit_or, Nat.testBit_two_pow, Bool.true_and]
    · rw [if_neg hc, Bool.eq_false_iff.mpr hc, Bool.false_and, Bool.or_false]
  · rw [if_neg (by omega), if_pos h]
    subst h
    subst hl
    simp [List.getD_eq_getElem?_getD]
  · rw [if_neg (by omega), if_neg (by omega)]
    simp only [List.getD_eq_getElem?_getD]
    rw [List.getElem?_eq_none (by simp; omega)]
    simp
def posC (Q o : List Nat) (k : Nat) : Nat := setN ((List.range k).filter fun j => edge Q (nb o k) (nb o j))
theorem posC_bit (Q o : List Nat) (k j : Nat) : (posC Q o k).testBit j = (decide (j < k) && edge Q (nb o k) (nb o j)) := by
  rw [posC, testBit_setN, Bool.eq_iff_iff, decide_eq_true_eq, List.mem_filter, List.mem_range, Bool.and_eq_true, decide_eq_true_eq]
def posG (Q o : List Nat) : Nat → List Nat
  | 0 => []
  | k + 1 => extG (posG Q o k) k (posC Q o k)
theorem posG_len (Q o : List Nat) : ∀ k, (posG Q o k).length = k
  | 0 => rfl
  | k + 1 => by rw [posG, extG, List.length_append, List.length_mapIdx, posG_len Q o k]; rfl
theorem posG_bit {n : Nat} {Q o : List Nat} (h : GOk n Q) : ∀ k i j, (nb (posG Q o k) i).testBit j = (decide (i < k) && decide (j < k) && edge Q (nb o i) (nb o j))
  | 0, i, j => by
    have : nb (posG Q o 0) i = 0 := by simp [nb, posG, List.getD]
    rw [this, Nat.zero_testBit, decide_eq_false (by omega)]; rfl
  | k + 1, i, j => by
    rw [posG, nb_extG (posG_len Q o k), posG_bit h k i j, posC_bit, posC_bit]
    have hirr := edge_irr h (nb o k)
    have hc := h.edge_comm (nb o k) (nb o i)
    rcases Nat.lt_trichotomy i k with h1 | h1 | h1
    · rw [if_pos h1, decide_eq_true h1, decide_eq_true (by omega : i < k + 1), Bool.true_and, Bool.true_and, Bool.true_and]
      rcases Nat.lt_trichotomy j k with h2 | h2 | h2
      · rw [decide_eq_true h2, decide_eq_true (by omega : j < k + 1), decide_eq_false (by omega : ¬ k = j)]; simp
      · subst h2
        rw [decide_eq_false (by omega : ¬ j < j), decide_eq_true (by omega : j < j + 1), decide_eq_true rfl, hc]; simp
      · rw [decide_eq_false (by omega : ¬ j < k), decide_eq_false (by omega : ¬ j < k + 1), decide_eq_false (by omega : ¬ k = j)]; simp
    · subst h1
      rw [if_neg (by omega), if_pos rfl, decide_eq_true (by omega : i < i + 1), Bool.true_and]
      rcases Nat.lt_trichotomy j i with h2 | h2 | h2
      · rw [decide_eq_true h2, decide_eq_true (by omega : j < i + 1)]
      · subst h2
        rw [hirr, Bool.and_false, Bool.and_false]
      · rw [decide_eq_false (by omega : ¬ j < i), decide_eq_false (by omega : ¬ j < i + 1)]
    · rw [if_neg (by omega), if_neg (by omega), decide_eq_false (by omega : ¬ i < k + 1)]; rfl
theorem posG_edge {n : Nat} {Q o : List Nat} (h : GOk n Q) {k i j : Nat} (hi : i < k) (hj : j < k) : edge (posG Q o k) i j = edge Q (nb o i) (nb o j) := by
  rw [edge, posG_bit h, decide_eq_true hi, decide_eq_true hj]; rfl
theorem posG_ok {n : Nat} {Q o : List Nat} (h : GOk n Q) {k : Nat} (h1 : 1 ≤ k) (h7 : k ≤ 7) : GOk k (posG Q o k) := by
  refine ⟨h1, h7, posG_len Q o k, fun i => Nat.lt_pow_two_of_testBit _ fun j hj => ?_, fun i => ?_, fun i j => ?_⟩
  · rw [posG_bit h, decide_eq_false (by omega : ¬ j < k), Bool.and_false]; rfl
  · rw [posG_bit h, edge_irr h, Bool.and_false]
  · rw [posG_bit h, posG_bit h, h.edge_comm, Bool.and_comm (decide (i < k))]
theorem posC_clq {n : Nat} {Q o : List Nat} (h : GOk n Q) (hp : Perf Q o) {k : Nat} (hk : k < o.length) : clq (posG Q o k) (posC Q o k) = true := by
  rw [clq_iff]
  intro v _ hv
  rw [posC_bit, Bool.and_eq_true, decide_eq_true_eq] at hv
  rw [clqAt, beq_iff_eq]
  apply Nat.eq_of_testBit_eq
  intro i
  rw [testBit_dif, Nat.testBit_two_pow, posC_bit, posG_bit h, decide_eq_true hv.1]
  by_cases hik : i < k
  · rw [decide_eq_true hik, Bool.true_and, Bool.true_and, Bool.true_and]
    by_cases e : v = i
    · subst e
      rw [decide_eq_true rfl, edge_irr h, hv.2]; rfl
    · rw [decide_eq_false e]
      rcases Bool.eq_false_or_eq_true (edge Q (nb o k) (nb o i)) with e1 | e1
      · have : edge Q (nb o v) (nb o i) = true := by
          rcases Nat.lt_or_ge v i with h1 | h1
          · exact hp v i k h1 hik hk hv.2 e1
          · rw [h.edge_comm]; exact hp i v k (by omega) hv.1 hk e1 hv.2
        rw [this, e1]; rfl
      · rw [e1]; rfl
  · rw [decide_eq_false hik, decide_eq_false (by omega : ¬ v = i)]; rfl
theorem allX_pos {P : List Nat → Nat → Bool} {n : Nat} {Q o : List Nat} (h : GOk n Q) (hp : Perf Q o) (hl : o.length = n) : ∀ f k, k + f = n → allX P f k (posG Q o k) = true → P (posG Q o n) n = true
  | 0, k, hk, ha => by obtain rfl : k = n := by omega
                       exact ha
  | f + 1, k, hk, ha => by
    rw [allX, List.all_eq_true] at ha
    have hlt : posC Q o k < 2 ^ k := setN_lt fun v hv => by
      have := (List.mem_filter.1 hv).1
      exact List.mem_range.1 this
    have h1 := ha (posC Q o k) (List.mem_range.2 hlt)
    rw [posC_clq h hp (by omega), Bool.not_true, Bool.false_or] at h1
    exact allX_pos h hp hl f (k + 1) (by omega) h1
structure Plc (Q : List Nat) (n : Nat) (l : List Nat) (S O : Nat) : Prop where
  nd : l.Nodup
  lt : ∀ v ∈ l, v < n
  s : ∀ u, S.testBit u = true ↔ u ∈ l
  o : ∀ i, i < l.length → (O.testBit (nb l i) = true ↔ ∀ j, i < j → j < l.length → edge Q (nb l i) (nb l j) = true)
  ord : OrdI Q l
theorem Plc.nil (Q : List Nat) (n : Nat) : Plc Q n [] 0 0 := ⟨List.nodup_nil, fun _ h => (by cases h), fun u => (by simp), fun i h => absurd h (by simp), fun i j k _ _ h => absurd h (by simp)⟩
theorem Plc.next {Q : List Nat} {n : Nat} {l : List Nat} {S O v : Nat} (h : GOk n Q) (H : Plc Q n l S O) (hv : v < n) (hS : S.testBit v = false) (hd : dif (nb Q v &&& S) O = 0) : Plc Q n (l ++ [v]) (S ||| 2 ^ v) ((O &&& nb Q v) ||| 2 ^ v) := by
  have hvl : v ∉ l := fun hm => by rw [(H.s v).2 hm] at hS; cases hS
  have hne : ∀ i, i < l.length → nb l i ≠ v := fun i hi e => hvl (e ▸ nb_mem hi)
  refine ⟨?_, ?_, fun u => ?_, fun i hi => ?_, fun i j k hij hjk hk e => ?_⟩
  · rw [List.nodup_append]
    exact ⟨H.nd, by simp, fun a ha b hb e => by
      rw [List.mem_singleton] at hb
      subst hb; subst e
      exact hvl ha⟩
  · intro u hu
    rcases List.mem_append.1 hu with hu | hu
    · exact H.lt u hu
    · rw [List.mem_singleton] at hu; omega
  · rw [Nat.testBit_or, Nat.testBit_two_pow, Bool.or_eq_true, H.s, decide_eq_true_eq, List.mem_append, List.mem_singleton]
    constructor
    · rintro (h1 | h1)
      · exact .inl h1
      · exact .inr h1.symm
    · rintro (h1 | h1)
      · exact .inl h1
      · exact .inr h1.symm
  · rw [List.length_append, List.length_singleton] at hi
    rcases Nat.lt_or_ge i l.length with hlt | hge
    · rw [nbU_lt hlt, Nat.testBit_or, Nat.testBit_and, Nat.testBit_two_pow, decide_eq_false (Ne.symm (hne i hlt)), Bool.or_false, Bool.and_eq_true, H.o i hlt]
      constructor
      · rintro ⟨h1, h2⟩ j hij hj
        rw [List.length_append, List.length_singleton] at hj
        rcases Nat.lt_or_ge j l.length with hj2 | hj2
        · rw [nbU_lt hj2]; exact h1 j hij hj2
        · obtain rfl : j = l.length := by omega
          rw [nbU_at, h.edge_comm]; exact h2
      · intro h1
        refine ⟨fun j hij hj => ?_, ?_⟩
        · have := h1 j hij (by simp; omega)
          rwa [nbU_lt hj] at this
        · have := h1 l.length hlt (by simp)
          rw [nbU_at, h.edge_comm] at this
          exact this
    · obtain rfl : i = l.length := by omega
      rw [nbU_at, Nat.testBit_or, Nat.testBit_two_pow, decide_eq_true rfl, Bool.or_true]
      exact ⟨fun _ j hij hj => by simp at hj; omega, fun _ => rfl⟩
  · rw [List.length_append, List.length_singleton] at hk
    rw [nbU_lt (by omega : i < l.length)] at e ⊢
    rw [nbU_lt (by omega : j < l.length)]
    rcases Nat.lt_or_ge k l.length with hlt | hge
    · rw [nbU_lt hlt] at e
      exact H.ord i j k hij hjk hlt e
    · obtain rfl : k = l.length := by omega
      rw [nbU_at, h.edge_comm] at e
      have hb : (nb Q v &&& S).testBit (nb l i) = true := by
        rw [Nat.testBit_and, (H.s _).2 (nb_mem (by omega)), Bool.and_true]; exact e
      have ho : O.testBit (nb l i) = true := by
        have := congrArg (fun x => x.testBit (nb l i)) hd
        simp only [testBit_dif, hb, Nat.zero_testBit, Bool.true_and, Bool.not_eq_false'] at this
        exact this
      exact (H.o i (by omega)).1 ho j hij (by omega)
theorem ivS_ord {n : Nat} {Q : List Nat} (h : GOk n Q) : ∀ f l S O, Plc Q n l S O → ivS Q n f S O = true → ∃ q, q.length = l.length + f ∧ natVerts n q ∧ OrdI Q q
  | 0, l, S, O, H, _ => ⟨l, rfl, ⟨H.lt, H.nd⟩, H.ord⟩
  | f + 1, l, S, O, H, hs => by
    rw [ivS, List.any_eq_true] at hs
    obtain ⟨v, hv, hs⟩ := hs
    rw [Bool.and_eq_true, Bool.and_eq_true, beq_iff_eq, Bool.not_eq_true'] at hs
    obtain ⟨⟨h1, h2⟩, h3⟩ := hs
    obtain ⟨q, hq, h4⟩ := ivS_ord h f _ _ _ (H.next h (List.mem_range.1 hv) h1 h2) h3
    exact ⟨q, by rw [hq, List.length_append, List.length_singleton]; omega, h4⟩
theorem dropWhile_pre {p : Nat → Bool} : ∀ {o : List Nat}, ((o.dropWhile p).all fun u => !p u) = true → ∀ a b, a < b → b < o.length → p (nb o b) = true → p (nb o a) = true
  | [], _, a, b, _, hb, _ => absurd hb (by simp)
  | x :: o, h, a, b, hab, hb, e => by
    obtain ⟨b, rfl⟩ : ∃ c, b = c + 1 := ⟨b - 1, by omega⟩
    have e1 : nb (x :: o) (b + 1) = nb o b := by simp [nb, List.getD]
    rw [e1] at e
    by_cases hx : p x = true
    · rw [List.dropWhile_cons_of_pos hx] at h
      cases a with
      | zero => exact hx
      | succ a =>
        have e2 : nb (x :: o) (a + 1) = nb o a := by simp [nb, List.getD]
        rw [e2]
        exact dropWhile_pre h a b (by omega) (by simpa using hb) e
    · rw [List.dropWhile_cons_of_neg hx, List.all_eq_true] at h
      have := h (nb o b) (List.mem_cons_of_mem _ (nb_mem (by simpa using hb)))
      rw [e] at this; cases this
theorem umS_ord {n : Nat} {Q : List Nat} (h : GOk n Q) : ∀ f l S O, Plc Q n l S O → OrdU Q l → umS Q n f l.reverse S O = true → ∃ q, q.length = l.length + f ∧ natVerts n q ∧ OrdI Q q ∧ OrdU Q q
  | 0, l, S, O, H, hu, _ => ⟨l, rfl, ⟨H.lt, H.nd⟩, H.ord, hu⟩
  | f + 1, l, S, O, H, hu, hs => by
    rw [umS, List.any_eq_true] at hs
    obtain ⟨v, hv, hs⟩ := hs
    rw [Bool.and_eq_true, Bool.and_eq_true, Bool.and_eq_true, beq_iff_eq, Bool.not_eq_true'] at hs
    obtain ⟨⟨⟨h1, h2⟩, h5⟩, h3⟩ := hs
    have hN := H.next h (List.mem_range.1 hv) h1 h2
    have e : v :: l.reverse = (l ++ [v]).reverse := by simp
    rw [e] at h3
    have hu' : OrdU Q (l ++ [v]) := fun i j k hij hjk hk e => by
      rw [List.length_append, List.length_singleton] at hk
      rw [nbU_lt (by omega : i < l.length)] at e
      rw [nbU_lt (by omega : j < l.length)]
      rcases Nat.lt_or_ge k l.length with hlt | hge
      · rw [nbU_lt hlt] at e ⊢
        exact hu i j k hij hjk hlt e
      · obtain rfl : k = l.length := by omega
        rw [nbU_at, h.edge_comm] at e
        rw [nbU_at]
        have := dropWhile_pre h5 (l.length - 1 - j) (l.length - 1 - i) (by omega) (by rw [List.length_reverse]; omega)
        rw [nbU_rev (by omega), nbU_rev (by omega)] at this
        have e1 : l.length - 1 - (l.length - 1 - i) = i := by omega
        have e2 : l.length - 1 - (l.length - 1 - j) = j := by omega
        rw [e1, e2] at this
        exact this e
    obtain ⟨q, hq, h4⟩ := umS_ord h f _ _ _ hN hu' h3
    exact ⟨q, by rw [hq, List.length_append, List.length_singleton]; omega, h4⟩
theorem carry_verts {n : Nat} {o q : List Nat} (ho : natVerts n o) (hl : o.length = n) (hq : natVerts n q) : natVerts n (q.map (nb o)) := by
  refine ⟨fun v hv => ?_, ?_⟩
  · obtain ⟨u, hu, rfl⟩ := List.mem_map.1 hv
    exact ho.at_ (by have := hq.1 u hu; omega)
  · rw [List.Nodup, List.pairwise_map]
    exact hq.2.imp_of_mem fun {a b} ha hb hne e => hne (ho.inj (by have := hq.1 a ha; omega) (by have := hq.1 b hb; omega) e)
theorem carry_ordI {n : Nat} {Q o q : List Nat} (h : GOk n Q) (hq : natVerts n q) (hi : OrdI (posG Q o n) q) : OrdI Q (q.map (nb o)) := fun i j k hij hjk hk e => by
  rw [List.length_map] at hk
  rw [nbU_map (by omega), nbU_map (by omega)] at e ⊢
  have := hi i j k hij hjk hk
  rw [posG_edge h (hq.at_ (by omega)) (hq.at_ (by omega)), posG_edge h (hq.at_ (by omega)) (hq.at_ (by omega))] at this
  exact this e
theorem carry_ordU {n : Nat} {Q o q : List Nat} (h : GOk n Q) (hq : natVerts n q) (hi : OrdU (posG Q o n) q) : OrdU Q (q.map (nb o)) := fun i j k hij hjk hk e => by
  rw [List.length_map] at hk
  rw [nbU_map (by omega), nbU_map (by omega)] at e ⊢
  have := hi i j k hij hjk hk
  rw [posG_edge h (hq.at_ (by omega)) (hq.at_ (by omega)), posG_edge h (hq.at_ (by omega)) (hq.at_ (by omega))] at this
  exact this e
theorem ordI_IV {n : Nat} {Q q : List Nat} (h : GOk n Q) (hq : natVerts n q) (hl : q.length = n) (hi : OrdI Q q) : ∃ a b, IV n Q a b := by
  obtain ⟨J, hJ⟩ : ∃ J : Nat → Nat → Bool, J = fun i k => edge Q (nb q i) (nb q k) := ⟨_, rfl⟩
  have key : ∀ u v, u < n → v < n → place q u < place q v → (edge Q u v = true ↔ place q v ≤ farU J (place q u) n) := fun u v hu hv hlt => by
    have mu := hq.all hl hu
    have mv := hq.all hl hv
    have lv := place_lt mv
    have e : edge Q u v = J (place q u) (place q v) := by rw [hJ]; simp only [place_at mu, place_at mv]
    rw [e]
    constructor
    · exact le_farK (by omega) hlt
    · intro hle
      have h1 := farK_adj (J := J) (i := place q u) (k := n) (by omega)
      rcases Nat.lt_or_ge (place q v) (farU J (place q u) n) with h2 | h2
      · have h3 := farK_lt (J := J) (i := place q u) (n := n) (by omega) n (Nat.le_refl _)
        rw [hJ] at h1 ⊢
        exact hi _ _ _ hlt (by rw [hJ] at h2; exact h2) (by rw [hJ] at h3; omega) h1
      · have h4 : place q v = farU J (place q u) n := by omega
        rw [h4]; exact h1
  refine ⟨fun v => (place q v : Nat), fun v => (farU J (place q v) n : Nat), fun v _ => ?_, fun u v hu hv hne => ?_⟩
  · have := farK_ge J (place q v) n
    omega
  · have g1 := farK_ge J (place q u) n
    have g2 := farK_ge J (place q v) n
    have mu := hq.all hl hu
    have mv := hq.all hl hv
    have hp : place q u ≠ place q v := fun e => hne (by rw [← place_at mu, ← place_at mv, e])
    rcases Nat.lt_or_ge (place q u) (place q v) with h1 | h1
    · rw [key u v hu hv h1]
      omega
    · rw [h.edge_comm, key v u hv hu (by omega)]
      omega
theorem umb_ordI {n : Nat} {Q o : List Nat} (h : GOk n Q) (hl : o.length = n) (hu : umb Q o = true) : OrdI Q o ∧ OrdU Q o := by
  obtain ⟨h1, h2⟩ := umb_adj h hl hu
  refine ⟨fun i j k hij hjk hk e => h2 i j k hij hjk (by omega) e, fun i j k hij hjk hk e => ?_⟩
  rw [h.edge_comm]
  exact h1 i j k hij hjk (by omega) e
theorem ordU_umb {n : Nat} {Q q : List Nat} (h : GOk n Q) (hq : natVerts n q) (hl : q.length = n) (hi : OrdI Q q) (hu : OrdU Q q) : (umbOf n (ints Q)).isSome = true := by
  rw [umbOf_ok h]
  have := srch_found (may := umb Q) (holds := yes) (N := n) (f := n) (l := []) (t := q) hl (by simpa using hq.2) hq.1 (fun k hk0 hk => by
    rw [List.nil_append]
    refine umb_true fun i hi' k' hk' j hij hjk => ?_
    have hk2 : k' < k := by simp at hk'; omega
    have hn : ∀ y, y < k → nb (q.take k) y = nb q y := fun y hy => by simp [nb, List.getD, hy]
    rcases Bool.eq_false_or_eq_true (edge Q (nb (q.take k) i) (nb (q.take k) k')) with e | e
    · rw [umbAt_on e]
      rw [hn i (by omega), hn k' hk2] at e ⊢
      rw [hn j (by omega), hi i j k' hij hjk (by omega) e, hu i j k' hij hjk (by omega) e]
      rfl
    · exact umbAt_off e) rfl
  exact Option.isSome_iff_ne_none.2 this
end Go.Proofs.YthncdjcmlpiebaaGreat
