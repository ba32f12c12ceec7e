/- Chapter 13, plain: heights. -/
import Derived.Test.YtcaoelihmkbedaaPure13
import Derived.Test.YtcaoelihmkbedaaPureF
namespace Go.Proofs.Ytcaoelihmkbedaa
/-- One arc from v to x. -/
def ht1 (v : Nat) (o : List Nat) (x : Nat) : List Nat := o.set x (max (nb o x) (nb o v + 1))
/-- The arcs from v to the members of l. -/
def ht2 (v : Nat) (o l : List Nat) : List Nat := l.foldl (ht1 v) o
/-- The arcs from the first k vertices. -/
def ht3 (R o : List Nat) : Nat → List Nat
  | 0 => o
  | k + 1 => ht2 k (ht3 R o k) (listOf (nb R k))
def ht4 (R : List Nat) (n : Nat) : Nat → List Nat
  | 0 => List.replicate n 0
  | r + 1 => ht3 R (ht4 R n r) n
def heights (R : List Nat) (n : Nat) : List Nat := ht4 R n n
/-- n numbers, none above b. -/
def upTo (n b : Nat) (o : List Nat) : Prop := o.length = n ∧ ∀ j, nb o j ≤ b
theorem nb_set {o : List Nat} {x y j : Nat} (h : x < o.length) : nb (o.set x y) j = if j = x then y else nb o j := by
  unfold nb
  simp only [List.getD_eq_getElem?_getD, List.getElem?_set]
  by_cases e : x = j
  · subst e; simp [h]
  · rw [if_neg e, if_neg (fun k => e k.symm)]
theorem upTo_set {n b x y : Nat} {o : List Nat} (h : upTo n b o) (hx : x < n) (hy : y ≤ b) : upTo n b (o.set x y) := by
  refine ⟨by rw [List.length_set]; exact h.1, fun j => ?_⟩
  rw [nb_set (by rw [h.1]; exact hx)]
  split
  · exact hy
  · exact h.2 j
theorem upTo.more {n b c : Nat} {o : List Nat} (h : upTo n b o) (k : b ≤ c) : upTo n c o := ⟨h.1, fun j => Nat.le_trans (h.2 j) k⟩
theorem upTo_ht1 {n b v x : Nat} {o : List Nat} (h : upTo n b o) (hx : x < n) : upTo n (b + 1) (ht1 v o x) := by
  refine upTo_set (h.more (Nat.le_succ _)) hx ?_
  have h1 := h.2 x
  have h2 := h.2 v
  omega
theorem ht2_snoc (v : Nat) (o l : List Nat) (x : Nat) : ht2 v o (l ++ [x]) = ht1 v (ht2 v o l) x := by simp [ht2]
theorem ht2_take {v j : Nat} {o l : List Nat} (h : j < l.length) : ht2 v o (l.take (j + 1)) = ht1 v (ht2 v o (l.take j)) (nb l j) := by
  rw [List.take_succ_eq_append_getElem h, ht2_snoc]
  simp [nb, List.getD, List.getElem?_eq_getElem h]
theorem ht2_yes {v s k : Nat} {o : List Nat} (h : s.testBit k = true) : ht2 v o (listK s (k + 1)) = ht1 v (ht2 v o (listK s k)) k := by rw [listK_yes h, ht2_snoc]
theorem ht2_no {v s k : Nat} {o : List Nat} (h : s.testBit k = false) : ht2 v o (listK s (k + 1)) = ht2 v o (listK s k) := by rw [listK_no h]
theorem upTo_zero (n : Nat) : upTo n 0 (List.replicate n 0) := ⟨by simp, fun j => by
  unfold nb
  simp only [List.getD_eq_getElem?_getD, List.getElem?_replicate]
  split <;> simp⟩
def isHeights (N : Int) (X T : List Int) : List Int := if isTrans N X T then ints (heights (T.map Int.toNat) T.length) else []
theorem isHeights_no {N : Int} {X T : List Int} (h : isTrans N X T = false) : isHeights N X T = [] := by rw [isHeights, h]; rfl
theorem isHeights_ok {N : Int} {X : List Int} {R : List Nat} (h : isTrans N X (ints R) = true) : isHeights N X (ints R) = ints (heights R R.length) := by rw [isHeights, if_pos h, nats_back, ints_len]
theorem isTrans_cases (N : Int) (X T : List Int) : isTrans N X T = false ∨ isTrans N X T = true ∧ ∃ (k : Nat) (Q R : List Nat), N = k ∧ X = ints Q ∧ T = ints R ∧ GOk k Q ∧ R.length = k ∧ (∀ v, nb R v < 2 ^ k) := by
  rcases Bool.eq_false_or_eq_true (isTrans N X T) with h | h
  · refine .inr ⟨h, ?_⟩
    rcases isOrient_cases N X T with hg | ⟨k, Q, R, h1, h2, h3, h4, h5, h6, _⟩
    · rw [isTrans_no hg] at h; cases h
    · exact ⟨k, Q, R, h1, h2, h3, h4, h5, h6⟩
  · exact .inl h
theorem heights_len {n b : Nat} {o : List Nat} (h : upTo n b o) : o.length = n := h.1
theorem ht2_len (v : Nat) (l : List Nat) : ∀ o : List Nat, (ht2 v o l).length = o.length := by
  induction l with
  | nil => intro o; rfl
  | cons x l ih => intro o; show (ht2 v (ht1 v o x) l).length = _; rw [ih]; simp [ht1]
theorem ht3_len (R o : List Nat) : ∀ k, (ht3 R o k).length = o.length
  | 0 => rfl
  | k + 1 => by rw [ht3, ht2_len, ht3_len R o k]
theorem ht4_len (R : List Nat) (n : Nat) : ∀ r, (ht4 R n r).length = n
  | 0 => by simp [ht4]
  | r + 1 => by rw [ht4, ht3_len, ht4_len R n r]
end Go.Proofs.Ytcaoelihmkbedaa
