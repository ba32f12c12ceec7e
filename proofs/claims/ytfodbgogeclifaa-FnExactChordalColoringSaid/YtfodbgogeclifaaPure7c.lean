/- Chapter 7, plain: colours by an order. No program in sight. -/
import Derived.Test.YtfodbgogeclifaaPure12
import Derived.Test.YtfodbgogeclifaaPure2b
namespace Go.Proofs.Ytfodbgogeclifaa
/-- The least number that is not in a set. -/
def mexF (u : Nat) : Nat → Nat → Nat
  | 0, k => k
  | f + 1, k => if u.testBit k then mexF u f (k + 1) else k
def mex (u : Nat) : Nat := mexF u 8 0
theorem mexF_at {u : Nat} : ∀ {f k r : Nat}, k ≤ r → r < k + f → (∀ j, k ≤ j → j < r → u.testBit j = true) → u.testBit r = false → mexF u f k = r
  | 0, k, r, h1, h2, _, _ => by omega
  | f + 1, k, r, h1, h2, h3, h4 => by
    rw [mexF]
    rcases Nat.lt_or_ge k r with h | h
    · rw [if_pos (h3 k (Nat.le_refl _) h)]
      exact mexF_at (by omega) (by omega) (fun j hj => h3 j (by omega)) h4
    · obtain rfl : k = r := by omega
      rw [h4]; rfl
theorem mex_at {u r : Nat} (h : r < 8) (h3 : ∀ j, j < r → u.testBit j = true) (h4 : u.testBit r = false) : mex u = r := mexF_at (Nat.zero_le _) (by omega) (fun j _ hj => h3 j hj) h4
/-- The colours of the neighbours of v among the members of l. -/
def usedL (Q C : List Nat) (v : Nat) (l : List Nat) : Nat := l.foldl (fun a w => if edge Q v w then a ||| 2 ^ nb C w else a) 0
theorem usedL_snoc (Q C : List Nat) (v : Nat) (l : List Nat) (w : Nat) : usedL Q C v (l ++ [w]) = if edge Q v w then usedL Q C v l ||| 2 ^ nb C w else usedL Q C v l := by simp [usedL]
theorem testBit_usedL (Q C : List Nat) (v : Nat) (l : List Nat) (i : Nat) : (usedL Q C v l).testBit i = true ↔ ∃ w ∈ l, edge Q v w = true ∧ nb C w = i := by
  have key : ∀ (l : List Nat) (a : Nat), (l.foldl (fun a w => if edge Q v w then a ||| 2 ^ nb C w else a) a).testBit i = true ↔ a.testBit i = true ∨ ∃ w ∈ l, edge Q v w = true ∧ nb C w = i := by
    intro l
    induction l with
    | nil => intro a; simp
    | cons x l ih =>
      intro a
      rw [List.foldl_cons, ih]
      by_cases hx : edge Q v x = true
      · rw [if_pos hx, Nat.testBit_or, Nat.testBit_two_pow, Bool.or_eq_true, decide_eq_true_eq, or_assoc]
        refine or_congr_right ?_
        constructor
        · rintro (h | ⟨w, hw, h⟩)
          · exact ⟨x, List.mem_cons_self .., hx, h⟩
          · exact ⟨w, List.mem_cons_of_mem _ hw, h⟩
        · rintro ⟨w, hw, h1, h2⟩
          rcases List.mem_cons.1 hw with rfl | hw
          · exact .inl h2
          · exact .inr ⟨w, hw, h1, h2⟩
      · rw [if_neg hx]
        refine or_congr_right ?_
        constructor
        · rintro ⟨w, hw, h⟩
          exact ⟨w, List.mem_cons_of_mem _ hw, h⟩
        · rintro ⟨w, hw, h1, h2⟩
          rcases List.mem_cons.1 hw with rfl | hw
          · exact absurd h1 hx
          · exact ⟨w, hw, h1, h2⟩
  rw [usedL, key]
  simp
theorem usedL_lt {Q C : List Nat} {v b : Nat} {l : List Nat} (h : ∀ w ∈ l, nb C w < b) : usedL Q C v l < 2 ^ b := by
  refine Nat.lt_pow_two_of_testBit _ fun i hi => ?_
  rw [← Bool.not_eq_true, testBit_usedL]
  rintro ⟨w, hw, _, e⟩
  have := h w hw
  omega
/-- The colours behind the first k vertices of an order. -/
def colK (Q o : List Nat) : Nat → List Nat
  | 0 => List.replicate o.length 0
  | k + 1 => (colK Q o k).set (nb o k) (mex (usedL Q (colK Q o k) (nb o k) (o.take k)))
theorem colK_len (Q o : List Nat) : ∀ k, (colK Q o k).length = o.length
  | 0 => by simp [colK]
  | k + 1 => by rw [colK, List.length_set, colK_len Q o k]
theorem mex_lt {u b : Nat} (hb : b ≤ 7) (h : u < 2 ^ b) : mex u ≤ b ∧ u.testBit (mex u) = false ∧ ∀ j, j < mex u → u.testBit j = true := by
  have hbit : u.testBit b = false := Nat.testBit_lt_two_pow h
  obtain ⟨r, hr, h1, h2⟩ : ∃ r, r ≤ b ∧ u.testBit r = false ∧ ∀ j, j < r → u.testBit j = true := by
    have key : ∀ n, (∀ j, j < n → u.testBit j = true) ∨ ∃ r, r < n ∧ u.testBit r = false ∧ ∀ j, j < r → u.testBit j = true := by
      intro n
      induction n with
      | zero => exact .inl fun j hj => absurd hj (by omega)
      | succ n ih =>
        rcases ih with ih | ⟨r, h1, h2, h3⟩
        · rcases Bool.eq_false_or_eq_true (u.testBit n) with e | e
          · exact .inl fun j hj => by
              rcases Nat.lt_succ_iff_lt_or_eq.1 hj with h' | rfl
              · exact ih j h'
              · exact e
          · exact .inr ⟨n, Nat.lt_succ_self _, e, ih⟩
        · exact .inr ⟨r, by omega, h2, h3⟩
    rcases key (b + 1) with h' | ⟨r, h1, h2, h3⟩
    · rw [h' b (by omega)] at hbit; cases hbit
    · exact ⟨r, by omega, h2, h3⟩
  rw [mex_at (by omega) h2 h1]
  exact ⟨hr, h1, h2⟩
/-- Behind k vertices: a vertex that has come has a colour below k, another one 0. -/
theorem colK_ok {n : Nat} {Q o : List Nat} (ho : natVerts n o) (h7 : o.length ≤ 7) : ∀ k, k ≤ o.length → (∀ w ∈ o.take k, nb (colK Q o k) w < k) ∧ ∀ w, w ∉ o.take k → nb (colK Q o k) w = 0 := by
  intro k
  induction k with
  | zero =>
    intro _
    refine ⟨fun w hw => by simp at hw, fun w _ => ?_⟩
    unfold nb colK
    simp only [List.getD_eq_getElem?_getD, List.getElem?_replicate]
    split <;> simp
  | succ k ih =>
    intro hk
    obtain ⟨h1, h2⟩ := ih (by omega)
    have hm := mex_lt (by omega) (usedL_lt (Q := Q) (v := nb o k) h1)
    have hts : o.take (k + 1) = o.take k ++ [nb o k] := by
      rw [List.take_succ_eq_append_getElem (by omega)]
      simp [nb, List.getD, List.getElem?_eq_getElem (show k < o.length by omega)]
    have hnew : nb (colK Q o (k + 1)) = fun w => if w = nb o k then (if nb o k < o.length then mex (usedL Q (colK Q o k) (nb o k) (o.take k)) else nb (colK Q o k) w) else nb (colK Q o k) w := by
      funext w
      rw [colK]
      rcases Nat.lt_or_ge (nb o k) o.length with hlt | hge
      · rw [nb_set' (by rw [colK_len]; exact hlt), if_pos hlt]
      · rw [List.set_eq_of_length_le (by rw [colK_len]; exact hge)]
        by_cases e : w = nb o k
        · rw [if_pos e, if_neg (Nat.not_lt.2 hge)]
        · rw [if_neg e]
    rw [hts]
    constructor
    · intro w hw
      rw [hnew]
      simp only
      split
      · rename_i e
        split
        · omega
        · rcases Classical.em (w ∈ o.take k) with hm' | hm'
          · have := h1 w hm'; omega
          · rw [h2 w hm']; omega
      · rename_i hne
        rcases List.mem_append.1 hw with hw | hw
        · have := h1 w hw; omega
        · exact absurd (by simpa using hw) hne
    · intro w hw
      rw [List.mem_append] at hw
      rw [hnew]
      simp only
      rw [if_neg (fun e => hw (.inr (by simp [e])))]
      exact h2 w (fun hm' => hw (.inl hm'))
def colOf (N : Int) (X l : List Int) : List Int := if isOrder N X l then ints (colK (X.map Int.toNat) (l.map Int.toNat) l.length) else []
theorem colOf_no {N : Int} {X l : List Int} (h : isOrder N X l = false) : colOf N X l = [] := by rw [colOf, h]; rfl
theorem colOf_ok {N : Int} {Q o : List Nat} (h : isOrder N (ints Q) (ints o) = true) : colOf N (ints Q) (ints o) = ints (colK Q o o.length) := by rw [colOf, if_pos h, nats_ints4, nats_ints4, ints_len]
end Go.Proofs.Ytfodbgogeclifaa
