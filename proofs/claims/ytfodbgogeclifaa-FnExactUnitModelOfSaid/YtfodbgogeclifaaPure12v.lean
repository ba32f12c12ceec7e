/- Chapter 12, plain: both ways come to the same left ends. No program in sight. -/
import Derived.Test.YtfodbgogeclifaaPure12u
namespace Go.Proofs.Ytfodbgogeclifaa
section
variable {J J' : Nat → Nat → Bool} {n : Nat}
theorem slst_congr (h : ∀ i k, i < k → k < n → J i k = J' i k) {i k : Nat} (hi : i < n) (hk : k < n) (x : List Nat) : slst J x i k = slst J' x i k := by
  unfold slst
  by_cases h1 : k < i
  · rw [if_pos h1, if_pos h1, h k i h1 hi]
  · rw [if_neg h1, if_neg h1]
    by_cases h2 : i < k
    · rw [h i k h2 hk]
    · rw [if_neg fun e => h2 e.1, if_neg fun e => h2 e.1]
theorem stK_congr (h : ∀ i k, i < k → k < n → J i k = J' i k) {i : Nat} (hi : i < n) (x : List Nat) : ∀ k, k ≤ n → stK J x i k = stK J' x i k
  | 0, _ => rfl
  | k + 1, hk => by rw [stK, stK, stK_congr h hi x k (by omega), slst_congr h hi (by omega)]
theorem stI_congr (h : ∀ i k, i < k → k < n → J i k = J' i k) (x : List Nat) : ∀ i, i ≤ n → stI J n x i = stI J' n x i
  | 0, _ => rfl
  | i + 1, hi => by rw [stI, stI, stI_congr h x i (by omega), stK_congr h (by omega) _ n (Nat.le_refl _)]
theorem stR_congr (h : ∀ i k, i < k → k < n → J i k = J' i k) : ∀ r, stR J n r = stR J' n r
  | 0 => rfl
  | r + 1 => by rw [stR, stR, stR_congr h r, stI_congr h _ n (Nat.le_refl _)]
theorem rsI_congr (h : ∀ i k, i < k → k < n → J i k = J' i k) {k : Nat} (hk : k < n) (s : List Nat × Bool) : ∀ i, i ≤ k → rsI J s k i = rsI J' s k i
  | 0, _ => rfl
  | i + 1, hi => by rw [rsI, rsI, rsI_congr h hk s i (by omega), rsA, rsA, h i k (by omega) hk]
theorem rsK_congr (h : ∀ i k, i < k → k < n → J i k = J' i k) (s : List Nat × Bool) : ∀ k, k ≤ n → rsK J s k = rsK J' s k
  | 0, _ => rfl
  | k + 1, hk => by rw [rsK, rsK, rsK_congr h s k (by omega), rsI_congr h (by omega) _ k (Nat.le_refl _)]
theorem rsR_congr (h : ∀ i k, i < k → k < n → J i k = J' i k) : ∀ r, rsR J n r = rsR J' n r
  | 0 => rfl
  | r + 1 => by rw [rsR, rsR, rsR_congr h r, rsK_congr h _ n (Nat.le_refl _)]
theorem rsF_congr (h : ∀ i k, i < k → k < n → J i k = J' i k) (r : Nat) : rsF J n r = rsF J' n r := by rw [rsF, rsF, rsR_congr h r, rsK_congr h _ n (Nat.le_refl _)]
end
/-! Nothing changes without the flag. -/
theorem upF_flag {s : List Nat × Bool} {v l : Nat} (h : (upF s v l).2 = false) : upF s v l = s := by
  unfold upF at h ⊢
  split
  · rename_i hc; rw [if_pos hc] at h; cases h
  · rfl
theorem rsA_flag {J : Nat → Nat → Bool} {s : List Nat × Bool} {k i : Nat} (h : (rsA J s k i).2 = false) : rsA J s k i = s := by
  unfold rsA at h ⊢
  split
  · rename_i hc; rw [if_pos hc] at h; exact upF_flag h
  · rename_i hc; rw [if_neg hc] at h; exact upF_flag h
theorem rsB_flag {s : List Nat × Bool} {k i : Nat} (h : (rsB s k i).2 = false) : rsB s k i = s := by
  unfold rsB at h ⊢
  split
  · rename_i hc; rw [if_pos hc] at h; exact upF_flag h
  · rfl
theorem rsI_flag {J : Nat → Nat → Bool} {s : List Nat × Bool} {k : Nat} : ∀ {i}, (rsI J s k i).2 = false → rsI J s k i = s
  | 0, _ => rfl
  | i + 1, h => by
    rw [rsI] at h ⊢
    have h1 := rsB_flag h
    rw [h1] at h ⊢
    have h2 := rsA_flag h
    rw [h2] at h ⊢
    exact rsI_flag h
theorem rsK_flag {J : Nat → Nat → Bool} {s : List Nat × Bool} : ∀ {k}, (rsK J s k).2 = false → rsK J s k = s
  | 0, _ => rfl
  | k + 1, h => by
    rw [rsK] at h ⊢
    have h1 := rsI_flag h
    rw [h1] at h ⊢
    exact rsK_flag h
theorem rsR_flag {J : Nat → Nat → Bool} {n r : Nat} (h : rsF J n r = false) : rsR J n (r + 1) = rsR J n r := by
  rw [rsR, rsK_flag h]
theorem rsR_stay {J : Nat → Nat → Bool} {n r : Nat} (h : rsR J n (r + 1) = rsR J n r) : ∀ m, r ≤ m → rsR J n m = rsR J n r
  | 0, hm => by obtain rfl : r = 0 := by omega
                rfl
  | m + 1, hm => by
    by_cases e : r = m + 1
    · rw [e]
    · have ih := rsR_stay h m (by omega)
      have h2 : rsR J n (m + 1) = rsR J n (r + 1) := by rw [rsR, rsR, ih]
      rw [h2, h]
theorem stR_stay {J : Nat → Nat → Bool} {n r : Nat} (h : stR J n (r + 1) = stR J n r) : ∀ m, r ≤ m → stR J n m = stR J n r
  | 0, hm => by obtain rfl : r = 0 := by omega
                rfl
  | m + 1, hm => by
    by_cases e : r = m + 1
    · rw [e]
    · have ih := stR_stay h m (by omega)
      have h2 : stR J n (m + 1) = stR J n (r + 1) := by rw [stR, stR, ih]
      rw [h2, h]
/-! An umbrella order is a staircase. -/
def farK (J : Nat → Nat → Bool) (i : Nat) : Nat → Nat
  | 0 => i
  | k + 1 => if i < k ∧ J i k = true then k else farK J i k
theorem farK_ge (J : Nat → Nat → Bool) (i : Nat) : ∀ k, i ≤ farK J i k
  | 0 => Nat.le_refl _
  | k + 1 => by
    rw [farK]
    split
    · omega
    · exact farK_ge J i k
theorem farK_lt {J : Nat → Nat → Bool} {i n : Nat} (hi : i < n) : ∀ k, k ≤ n → farK J i k < n
  | 0, _ => hi
  | k + 1, hk => by
    rw [farK]
    split
    · omega
    · exact farK_lt hi k (by omega)
theorem farK_adj {J : Nat → Nat → Bool} {i : Nat} : ∀ {k}, i < farK J i k → J i (farK J i k) = true
  | 0, h => by rw [farK] at h; omega
  | k + 1, h => by
    rw [farK] at h ⊢
    split
    · rename_i hc; exact hc.2
    · rename_i hc; rw [if_neg hc] at h; exact farK_adj h
theorem le_farK {J : Nat → Nat → Bool} {i j : Nat} : ∀ {k}, j < k → i < j → J i j = true → j ≤ farK J i k
  | 0, h, _, _ => by omega
  | k + 1, h, h1, h2 => by
    rw [farK]
    split
    · omega
    · rename_i hc
      rcases Nat.lt_succ_iff_lt_or_eq.1 h with h | rfl
      · exact le_farK h h1 h2
      · exact absurd ⟨h1, h2⟩ hc
def stairOf (J : Nat → Nat → Bool) (n i : Nat) : List Nat := (List.range i).map fun j => farK J j n
theorem nb_stairOf (J : Nat → Nat → Bool) {n i j : Nat} (h : j < i) : nb (stairOf J n i) j = farK J j n := by
  simp [nb, stairOf, List.getD, List.getElem?_map, List.getElem?_range h]
theorem mem_stairs {J : Nat → Nat → Bool} {n : Nat} (hJ : ∀ i j k, i < j → j < k → k < n → J i k = true → J j k = true) : ∀ i, i ≤ n → stairOf J n i ∈ stairs n i
  | 0, _ => by simp [stairOf, stairs]
  | i + 1, hi => by
    have ih := mem_stairs hJ i (by omega)
    rw [stairs, List.mem_flatMap]
    refine ⟨_, ih, ?_⟩
    rw [List.mem_map]
    refine ⟨farK J i n, ?_, by rw [stairOf, stairOf, List.range_succ, List.map_append]; rfl⟩
    rw [List.mem_filter, List.mem_range]
    refine ⟨farK_lt (by omega) n (Nat.le_refl _), ?_⟩
    rw [Bool.and_eq_true, decide_eq_true_eq, decide_eq_true_eq]
    refine ⟨farK_ge J i n, ?_⟩
    cases i with
    | zero => simp [stairOf]
    | succ i =>
      have e : (stairOf J n (i + 1)).getLast?.getD 0 = farK J i n := by simp [stairOf, List.range_succ]
      rw [e]
      have h1 := farK_ge J (i + 1) n
      rcases Nat.lt_or_ge (i + 1) (farK J i n) with h | h
      · exact le_farK (farK_lt (by omega) n (Nat.le_refl _)) h (hJ i (i + 1) _ (by omega) h (farK_lt (by omega) n (Nat.le_refl _)) (farK_adj (by omega)))
      · omega
/-- Which places of an order are neighbours. -/
def adjP (Q o : List Nat) (i k : Nat) : Bool := edge Q (nb o i) (nb o k)
theorem umb_adj {n : Nat} {Q o : List Nat} (h : GOk n Q) (hl : o.length = n) (hu : umb Q o = true) : (∀ i j k, i < j → j < k → k < n → adjP Q o i k = true → adjP Q o j k = true) ∧ (∀ i j k, i < j → j < k → k < n → adjP Q o i k = true → adjP Q o i j = true) := by
  have hk := fun i j k (hij : i < j) (hjk : j < k) (hkn : k < n) (e : adjP Q o i k = true) => (umbAt_on (j := j) (Q := Q) (o := o) (i := i) (k := k) e).symm.trans (umb_iff.1 hu k (by omega) j hjk i hij)
  refine ⟨fun i j k h1 h2 h3 e => ?_, fun i j k h1 h2 h3 e => ?_⟩
  · have := hk i j k h1 h2 h3 e
    rw [Bool.and_eq_true] at this
    rw [adjP, h.edge_comm]; exact this.2
  · have := hk i j k h1 h2 h3 e
    rw [Bool.and_eq_true] at this
    exact this.1
theorem stair_adj {J : Nat → Nat → Bool} {n : Nat} (hJ2 : ∀ i j k, i < j → j < k → k < n → J i k = true → J i j = true) {i k : Nat} (hik : i < k) (hk : k < n) : J i k = adjS (stairOf J n n) i k := by
  rw [adjS, nb_stairOf J (by omega), Bool.eq_iff_iff, decide_eq_true_eq]
  constructor
  · exact fun e => le_farK hk hik e
  · intro hle
    have h1 := farK_adj (J := J) (i := i) (k := n) (by omega)
    rcases Nat.lt_or_ge k (farK J i n) with h | h
    · exact hJ2 i k _ hik h (farK_lt (by omega) n (Nat.le_refl _)) h1
    · obtain rfl : k = farK J i n := by omega
      exact h1
/-- Both ways end, and come to the same. -/
theorem unit_same {n : Nat} {Q o : List Nat} (h : GOk n Q) (hl : o.length = n) (hu : umb Q o = true) :
    rsF (adjP Q o) n 3 = false ∧ stR (adjP Q o) n (n * n + 1) = rsR (adjP Q o) n 3 := by
  have h7 := h.le
  obtain ⟨h1, h2⟩ := umb_adj h hl hu
  have hc : ∀ i k, i < k → k < n → adjP Q o i k = adjS (stairOf (adjP Q o) n n) i k := fun i k hik hk => stair_adj h2 hik hk
  have hok := all_ok h7 (mem_stairs h1 n (Nat.le_refl _))
  simp only [okS, Bool.and_eq_true, beq_iff_eq] at hok
  obtain ⟨⟨o1, o2⟩, o3⟩ := hok
  refine ⟨by rw [rsF_congr hc]; exact o1, ?_⟩
  rw [stR_congr hc, rsR_congr hc, o3]
  have hst := stR_stay o2
  rcases Nat.lt_or_ge (n * n + 1) 4 with hlt | hge
  · -- n is 1: all is 0
    have hn1 : n = 1 := by
      have := h.pos
      rcases Nat.lt_or_ge n 2 with h3 | h3
      · omega
      · have : 2 * 2 ≤ n * n := Nat.mul_le_mul h3 h3
        omega
    subst hn1
    generalize adjS (stairOf (adjP Q o) 1 1) = K
    show stR K 1 2 = stR K 1 4
    have e : stR K 1 1 = stR K 1 0 := by simp [stR, stI, stK, slst, nb]
    rw [stR_stay e 2 (by omega), stR_stay e 4 (by omega)]
  · exact hst _ hge
end Go.Proofs.Ytfodbgogeclifaa
