/- Sorting, plain: the reference's insertion, the library's sort; lists without repeats. No program in sight. -/
import Derived.Test.YtnaoomchekhcgaaBase
import Derived.Lib.SlicesCompact
namespace Go.Proofs.Ytnaoomchekhcgaa
/-- Where x belongs among the first k. -/
def posK (out : List Int) (x : Int) : Nat → Nat
  | 0 => 0
  | k + 1 => if x < out.getD k 0 then posK out x k else k + 1
def posI (out : List Int) (x : Int) : Nat := posK out x out.length
def insI (out : List Int) (x : Int) : List Int := out.take (posI out x) ++ [x] ++ out.drop (posI out x)
def insK (xs : List Int) : Nat → List Int
  | 0 => []
  | k + 1 => insI (insK xs k) (xs.getD k 0)
def sortI (xs : List Int) : List Int := xs.mergeSort fun x y => decide (x ≤ y)
theorem posK_le (out : List Int) (x : Int) : ∀ k, posK out x k ≤ k
  | 0 => Nat.le_refl _
  | k + 1 => by rw [posK]; split; exact Nat.le_succ_of_le (posK_le out x k); exact Nat.le_refl _
theorem posI_le (out : List Int) (x : Int) : posI out x ≤ out.length := posK_le _ _ _
theorem posK_gt (out : List Int) (x : Int) : ∀ k j, posK out x k ≤ j → j < k → x < out.getD j 0
  | 0, j, _, h => by omega
  | k + 1, j, h1, h2 => by
    rw [posK] at h1
    split at h1
    · rename_i hx
      rcases Nat.lt_succ_iff_lt_or_eq.1 h2 with h3 | rfl
      · exact posK_gt out x k j h1 h3
      · exact hx
    · omega
theorem posK_le_at (out : List Int) (x : Int) : ∀ k, posK out x k = 0 ∨ out.getD (posK out x k - 1) 0 ≤ x
  | 0 => .inl rfl
  | k + 1 => by
    rw [posK]
    split
    · exact posK_le_at out x k
    · right
      rw [Nat.add_sub_cancel]
      omega
theorem insI_len (out : List Int) (x : Int) : (insI out x).length = out.length + 1 := by
  have := posI_le out x
  simp only [insI, List.length_append, List.length_take, List.length_drop, List.length_singleton]
  omega
theorem insK_len (xs : List Int) : ∀ k, (insK xs k).length = k
  | 0 => rfl
  | k + 1 => by rw [insK, insI_len, insK_len xs k]
theorem insI_perm (out : List Int) (x : Int) : (insI out x).Perm (x :: out) := by
  rw [insI]
  have h1 : (out.take (posI out x) ++ [x] ++ out.drop (posI out x)).Perm ([x] ++ out.take (posI out x) ++ out.drop (posI out x)) := List.Perm.append_right _ List.perm_append_comm
  have h2 : [x] ++ out.take (posI out x) ++ out.drop (posI out x) = x :: out := by simp
  rw [h2] at h1
  exact h1
theorem getD_memI {out : List Int} {j : Nat} (h : j < out.length) : out.getD j 0 = out[j] := by simp [List.getD, List.getElem?_eq_getElem h]
theorem insI_sorted {out : List Int} (x : Int) (h : out.Pairwise (· ≤ ·)) : (insI out x).Pairwise (· ≤ ·) := by
  have hle := posI_le out x
  have hg := List.pairwise_iff_getElem.1 h
  have hd : ∀ y ∈ out.drop (posI out x), x ≤ y := by
    intro y hy
    obtain ⟨j, hj, rfl⟩ := List.mem_iff_getElem.1 hy
    rw [List.getElem_drop]
    have hj' : posI out x + j < out.length := by rw [List.length_drop] at hj; omega
    have := posK_gt out x out.length (posI out x + j) (Nat.le_add_right _ _) hj'
    rw [getD_memI hj'] at this
    omega
  have ht : ∀ y ∈ out.take (posI out x), y ≤ x := by
    intro y hy
    obtain ⟨j, hj, rfl⟩ := List.mem_iff_getElem.1 hy
    rw [List.getElem_take]
    have hj' : j < posI out x := by rw [List.length_take] at hj; omega
    rcases posK_le_at out x out.length with e | e
    · have : posI out x = 0 := e
      omega
    · have e' : out.getD (posI out x - 1) 0 ≤ x := e
      rw [getD_memI (by omega)] at e'
      rcases Nat.lt_or_ge j (posI out x - 1) with h1 | h1
      · have := hg j (posI out x - 1) (by omega) (by omega) h1
        omega
      · obtain rfl : j = posI out x - 1 := by omega
        exact e'
  rw [insI, List.pairwise_append, List.pairwise_append]
  refine ⟨⟨h.sublist (List.take_sublist _ _), by simp, ?_⟩, h.sublist (List.drop_sublist _ _), ?_⟩
  · intro a ha b hb
    obtain rfl : b = x := by simpa using hb
    exact ht a ha
  · intro a ha b hb
    rcases List.mem_append.1 ha with ha | ha
    · exact Int.le_trans (ht a ha) (hd b hb)
    · obtain rfl : a = x := by simpa using ha
      exact hd b hb
theorem insK_perm (xs : List Int) : ∀ k, k ≤ xs.length → (insK xs k).Perm (xs.take k)
  | 0, _ => by simp [insK]
  | k + 1, h => by
    have h1 := insK_perm xs k (by omega)
    rw [insK, List.take_succ_eq_append_getElem (by omega), getD_memI (by omega)]
    exact (insI_perm _ _).trans ((h1.cons _).trans (List.perm_append_comm (l₁ := [xs[k]])))
theorem insK_sorted (xs : List Int) : ∀ k, (insK xs k).Pairwise (· ≤ ·)
  | 0 => by simp [insK]
  | k + 1 => insI_sorted _ (insK_sorted xs k)
theorem sortI_sorted (xs : List Int) : (sortI xs).Pairwise (· ≤ ·) := by
  have := List.pairwise_mergeSort (le := fun (x y : Int) => decide (x ≤ y)) (fun a b c h1 h2 => by simp at *; omega) (fun a b => by simp; omega) xs
  exact this.imp fun h => by simpa using h
theorem sortI_perm (xs : List Int) : (sortI xs).Perm xs := List.mergeSort_perm _ _
theorem sortI_len (xs : List Int) : (sortI xs).length = xs.length := (sortI_perm xs).length_eq
theorem sorted_unique {xs ys : List Int} (h1 : xs.Pairwise (· ≤ ·)) (h2 : ys.Pairwise (· ≤ ·)) (h : xs.Perm ys) : xs = ys := List.Perm.eq_of_pairwise (fun a b _ _ h3 h4 => by omega) h1 h2 h
/-- Insertion sorts. -/
theorem insK_all (xs : List Int) : insK xs xs.length = sortI xs := by
  have h1 := insK_perm xs xs.length (Nat.le_refl _)
  rw [List.take_length] at h1
  exact sorted_unique (insK_sorted _ _) (sortI_sorted _) (h1.trans (sortI_perm xs).symm)
/-- Each once, as they come. -/
def onceK (xs : List Int) : Nat → List Int
  | 0 => []
  | k + 1 => if xs.getD k 0 ∈ onceK xs k then onceK xs k else onceK xs k ++ [xs.getD k 0]
theorem onceK_yes {xs : List Int} {k : Nat} (h : xs.getD k 0 ∈ onceK xs k) : onceK xs (k + 1) = onceK xs k := by rw [onceK, if_pos h]
theorem onceK_no {xs : List Int} {k : Nat} (h : xs.getD k 0 ∉ onceK xs k) : onceK xs (k + 1) = onceK xs k ++ [xs.getD k 0] := by rw [onceK, if_neg h]
theorem onceK_len (xs : List Int) : ∀ k, (onceK xs k).length ≤ k
  | 0 => Nat.le_refl _
  | k + 1 => by
    have := onceK_len xs k
    rw [onceK]
    split
    · omega
    · simp; omega
theorem onceK_nodup (xs : List Int) : ∀ k, (onceK xs k).Nodup
  | 0 => by simp [onceK]
  | k + 1 => by
    have := onceK_nodup xs k
    rw [onceK]
    split
    · exact this
    · rename_i hn
      rw [List.nodup_append]
      exact ⟨this, by simp, fun a ha b hb e => hn (by
        obtain rfl : b = xs.getD k 0 := by simpa using hb
        exact e ▸ ha)⟩
theorem onceK_mem (xs : List Int) (x : Int) : ∀ k, k ≤ xs.length → (x ∈ onceK xs k ↔ x ∈ xs.take k)
  | 0, _ => by simp [onceK]
  | k + 1, h => by
    have ih := onceK_mem xs x k (by omega)
    rw [onceK, List.take_succ_eq_append_getElem (by omega), List.mem_append, List.mem_singleton, getD_memI (by omega), ← ih]
    split
    · rename_i hm
      constructor
      · exact .inl
      · rintro (h | rfl)
        · exact h
        · exact hm
    · simp
/-- The library's Compact of a sorted list. -/
theorem compact_strict {xs : List Int} (h : xs.Pairwise (· ≤ ·)) : ∀ m, m ≤ xs.length → (Lib.compactUpTo xs.toArray m).Pairwise (· < ·) ∧ ∀ x, x ∈ Lib.compactUpTo xs.toArray m ↔ x ∈ xs.take m
  | 0, _ => by simp [Lib.compactUpTo]
  | m + 1, hm => by
    obtain ⟨h1, h2⟩ := compact_strict h m (by omega)
    have hg := List.pairwise_iff_getElem.1 h
    have em : xs.toArray[m]! = xs[m] := by simp [getElem!_pos, show m < xs.length by omega]
    rw [Lib.compactUpTo_succ, em]
    have htake : xs.take (m + 1) = xs.take m ++ [xs[m]] := List.take_succ_eq_append_getElem (by omega)
    have hle : ∀ a ∈ xs.take m, a ≤ xs[m] := by
      intro a ha
      obtain ⟨j, hj, rfl⟩ := List.mem_iff_getElem.1 ha
      rw [List.getElem_take]
      rw [List.length_take] at hj
      exact hg j m (by omega) (by omega) (by omega)
    by_cases hk : Lib.keeps xs.toArray m = true
    · rw [if_pos hk]
      have hne : ∀ a ∈ xs.take m, a < xs[m] := by
        intro a ha
        have hla := hle a ha
        rcases Int.lt_or_eq_of_le hla with h3 | h3
        · exact h3
        · exfalso
          rw [Lib.keeps, decide_eq_true_eq] at hk
          have hm0 : m ≠ 0 := by
            rintro rfl
            simp at ha
          rcases hk with hk | hk
          · exact hm0 hk
          · rw [em] at hk
            have em1 : xs.toArray[m - 1]! = xs[m - 1] := by simp [getElem!_pos, show m - 1 < xs.length by omega]
            rw [em1] at hk
            obtain ⟨j, hj, rfl⟩ := List.mem_iff_getElem.1 ha
            rw [List.length_take] at hj
            rw [List.getElem_take] at h3
            have g1 := hg (m - 1) m (by omega) (by omega) (by omega)
            rcases Nat.lt_or_ge j (m - 1) with g2 | g2
            · have := hg j (m - 1) (by omega) (by omega) g2
              omega
            · obtain rfl : j = m - 1 := by omega
              omega
      refine ⟨?_, fun x => ?_⟩
      · rw [List.pairwise_append]
        exact ⟨h1, by simp, fun a ha b hb => by
          obtain rfl : b = xs[m] := by simpa using hb
          exact hne a ((h2 a).1 ha)⟩
      · rw [List.mem_append, htake, List.mem_append, h2 x]
    · rw [if_neg hk, List.append_nil]
      refine ⟨h1, fun x => ?_⟩
      rw [htake, List.mem_append, List.mem_singleton, h2 x]
      constructor
      · exact .inl
      · rintro (h3 | rfl)
        · exact h3
        · rw [Lib.keeps, decide_eq_true_eq] at hk
          have hm0 : m ≠ 0 := fun e => hk (.inl e)
          have he : xs.toArray[m]! = xs.toArray[m - 1]! := Classical.byContradiction fun e => hk (.inr e)
          have em1 : xs.toArray[m - 1]! = xs[m - 1] := by simp [getElem!_pos, show m - 1 < xs.length by omega]
          rw [em, em1] at he
          rw [he]
          refine List.mem_iff_getElem.2 ⟨m - 1, by rw [List.length_take]; omega, ?_⟩
          rw [List.getElem_take]
theorem nodup_perm {xs ys : List Int} (h1 : xs.Nodup) (h2 : ys.Nodup) (h : ∀ x, x ∈ xs ↔ x ∈ ys) : xs.Perm ys := (List.perm_ext_iff_of_nodup h1 h2).2 h
/-- Sorted and compacted, or each once and sorted. -/
theorem compact_once (xs : List Int) : Lib.compact (sortI xs) = sortI (onceK xs xs.length) := by
  obtain ⟨h1, h2⟩ := compact_strict (sortI_sorted xs) (sortI xs).length (Nat.le_refl _)
  rw [List.take_length] at h2
  have hnd : (Lib.compactUpTo (sortI xs).toArray (sortI xs).length).Nodup := h1.imp fun h => by omega
  refine sorted_unique (h1.imp fun h => by omega) (sortI_sorted _) ((nodup_perm hnd (onceK_nodup xs _) fun x => ?_).trans (sortI_perm _).symm)
  rw [h2, (sortI_perm xs).mem_iff, onceK_mem xs x _ (Nat.le_refl _), List.take_length]
end Go.Proofs.Ytnaoomchekhcgaa
