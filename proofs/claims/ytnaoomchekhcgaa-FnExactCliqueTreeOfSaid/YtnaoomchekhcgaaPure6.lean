/- Chapter 6, plain: elimination orders. No program in sight. -/
import Derived.Test.YtnaoomchekhcgaaPure3
namespace Go.Proofs.Ytnaoomchekhcgaa
theorem fst_cases (P : Nat → Bool) : ∀ n, (∀ j, j < n → P j = false) ∨ ∃ k, k < n ∧ P k = true ∧ ∀ j, j < k → P j = false
  | 0 => .inl fun j hj => absurd hj (by omega)
  | n + 1 => by
    rcases fst_cases P n with h | ⟨k, h1, h2, h3⟩
    · rcases Bool.eq_false_or_eq_true (P n) with e | e
      · exact .inr ⟨n, by omega, e, h⟩
      · exact .inl fun j hj => by
          rcases Nat.lt_succ_iff_lt_or_eq.1 hj with h' | rfl
          · exact h j h'
          · exact e
    · exact .inr ⟨k, by omega, h2, h3⟩
/-- v's neighbours in L are a clique. -/
def spl (Q : List Nat) (L v : Nat) : Bool := clq Q (nb Q v &&& L)
/-- The least such vertex of L. -/
def stp (Q : List Nat) (L : Nat) : Option Nat := (listOf L).find? fun v => spl Q L v
theorem stp_none {Q : List Nat} {L : Nat} (h : ∀ v, v < 7 → L.testBit v = true → spl Q L v = false) : stp Q L = none := by
  rw [stp, List.find?_eq_none]
  intro v hv
  have := mem_listOf.1 hv
  rw [h v this.1 this.2]
  exact Bool.false_ne_true
theorem find_listK {L v : Nat} {P : Nat → Bool} (hb : L.testBit v = true) (hp : P v = true) (hno : ∀ u, u < v → L.testBit u = true → P u = false) : ∀ k, (listK L k).find? P = if v < k then some v else none
  | 0 => by rw [if_neg (by omega)]; rfl
  | k + 1 => by
    rw [listK_succ, List.find?_append, find_listK hb hp hno k]
    have e2 : (if v < k + 1 then some v else none : Option Nat) = if v < k then some v else if v = k then some v else none := by
      by_cases h1 : v < k
      · rw [if_pos h1, if_pos (by omega)]
      · rw [if_neg h1]
        by_cases h2 : v = k
        · rw [if_pos h2, if_pos (by omega)]
        · rw [if_neg h2, if_neg (by omega)]
    rw [e2]
    by_cases h1 : v < k
    · simp [h1]
    · by_cases h2 : v = k
      · subst h2
        simp [hb, hp]
      · rcases Bool.eq_false_or_eq_true (L.testBit k) with h3 | h3
        · simp [h1, h2, h3, hno k (by omega) h3]
        · simp [h1, h2, h3]
theorem stp_some {Q : List Nat} {L v : Nat} (hv : v < 7) (hb : L.testBit v = true) (hp : spl Q L v = true) (hno : ∀ u, u < v → L.testBit u = true → spl Q L u = false) : stp Q L = some v := by
  rw [stp, listOf, find_listK (P := fun v => spl Q L v) hb hp hno, if_pos hv]
theorem stp_idx {Q : List Nat} {L k : Nat} (hk : k < (listOf L).length) (hp : spl Q L (nb (listOf L) k) = true) (hno : ∀ j, j < k → spl Q L (nb (listOf L) j) = false) : stp Q L = some (nb (listOf L) k) := by
  have e : ∀ j, (hj : j < (listOf L).length) → nb (listOf L) j = (listOf L)[j] := fun j hj => by simp [nb, List.getD, List.getElem?_eq_getElem hj]
  rw [stp, List.find?_eq_some_iff_getElem]
  refine ⟨hp, k, hk, (e k hk).symm, fun j hj => ?_⟩
  rw [← e j (by omega), hno j hj]; rfl
theorem stp_all {Q : List Nat} {L : Nat} (h : ∀ j, j < (listOf L).length → spl Q L (nb (listOf L) j) = false) : stp Q L = none := by
  rw [stp, List.find?_eq_none]
  intro v hv
  obtain ⟨j, hj, rfl⟩ := List.mem_iff_getElem.1 hv
  have e : nb (listOf L) j = (listOf L)[j] := by simp [nb, List.getD, List.getElem?_eq_getElem hj]
  rw [← e, h j hj]; exact Bool.false_ne_true
/-- The walk: acc is what has gone, L what is left. -/
def elimR (Q : List Nat) : Nat → List Nat → Nat → Option (List Nat)
  | 0, acc, _ => some acc
  | f + 1, acc, L => if L = 0 then some acc else (stp Q L).bind fun v => elimR Q f (acc ++ [v]) (dif L (2 ^ v))
theorem elimR_zero (Q : List Nat) (f : Nat) (acc : List Nat) : elimR Q f acc 0 = some acc := by cases f <;> rfl
theorem elimR_none {Q : List Nat} {f L : Nat} {acc : List Nat} (h0 : L ≠ 0) (hf : L ≤ f) (h : stp Q L = none) : elimR Q f acc L = none := by
  cases f with
  | zero => omega
  | succ f => rw [elimR, if_neg h0, h]; rfl
theorem elimR_some {Q : List Nat} {f L v : Nat} {acc : List Nat} (h0 : L ≠ 0) (hf : L ≤ f) (h : stp Q L = some v) : ∃ f', f = f' + 1 ∧ elimR Q f acc L = elimR Q f' (acc ++ [v]) (dif L (2 ^ v)) := by
  cases f with
  | zero => omega
  | succ f => exact ⟨f, rfl, by rw [elimR, if_neg h0, h]; rfl⟩
theorem stp_bit {Q : List Nat} {L v : Nat} (h : stp Q L = some v) : v < 7 ∧ L.testBit v = true := mem_listOf.1 (List.mem_of_find?_eq_some h)
theorem dif_bit_lt {L v : Nat} (h : L.testBit v = true) : dif L (2 ^ v) + 1 ≤ L := by
  have := sub_bit h
  have := Nat.two_pow_pos v
  omega
theorem elimR_len {Q : List Nat} : ∀ {f : Nat} {acc : List Nat} {L : Nat} {r : List Nat}, elimR Q f acc L = some r → acc.length ≤ r.length ∧ r.length ≤ acc.length + L
  | 0, acc, L, r, h => by cases h; omega
  | f + 1, acc, L, r, h => by
    rw [elimR] at h
    by_cases h0 : L = 0
    · rw [if_pos h0] at h; cases h; omega
    · rw [if_neg h0] at h
      rcases hs : stp Q L with _ | v
      · rw [hs] at h; cases h
      · rw [hs] at h
        have := elimR_len (r := r) (by simpa using h)
        have := dif_bit_lt (stp_bit hs).2
        rw [List.length_append] at *
        simp only [List.length_singleton] at *
        omega
theorem elimR_pos {Q : List Nat} {f : Nat} {acc : List Nat} {L : Nat} {r : List Nat} (h0 : L ≠ 0) (hf : L ≤ f) (h : elimR Q f acc L = some r) : 0 < r.length := by
  rcases hs : stp Q L with _ | v
  · rw [elimR_none h0 hf hs] at h; cases h
  · obtain ⟨f', rfl, e⟩ := elimR_some (acc := acc) h0 hf hs
    rw [e] at h
    have := (elimR_len h).1
    rw [List.length_append] at this
    simp only [List.length_singleton] at this
    omega
def elimOf (N : Int) (X : List Int) : Option (List Nat) := if isGraph N X then elimR (X.map Int.toNat) 127 [] (2 ^ X.length - 1) else none
theorem nats_ints6 (Q : List Nat) : (ints Q).map Int.toNat = Q := by simp [ints, List.map_map, Function.comp_def]
theorem elimOf_no {N : Int} {X : List Int} (h : isGraph N X = false) : elimOf N X = none := by rw [elimOf, h]; rfl
theorem elimOf_ok {n : Nat} {Q : List Nat} (h : GOk n Q) : elimOf n (ints Q) = elimR Q 127 [] (2 ^ n - 1) := by rw [elimOf, if_pos h.is, nats_ints6, ints_len, h.len]
theorem full_lt {n : Nat} (h : n ≤ 7) : 2 ^ n - 1 ≤ 127 := by
  have := Nat.pow_le_pow_right (n := 2) (by omega) h
  omega
theorem full_pos {n : Nat} (h : 1 ≤ n) : 2 ^ n - 1 ≠ 0 := by
  have := Nat.pow_le_pow_right (n := 2) (by omega) h
  omega
theorem elimOf_len {n : Nat} {Q r : List Nat} (h : GOk n Q) (he : elimOf n (ints Q) = some r) : 0 < r.length ∧ r.length ≤ 127 := by
  rw [elimOf_ok h] at he
  have h1 := full_lt h.le
  exact ⟨elimR_pos (full_pos h.pos) h1 he, by have := (elimR_len he).2; simp at this; omega⟩
/-- The least vertex of L at k or behind it, before n. -/
def lowK (P : Nat → Bool) (n : Nat) : Nat → Int
  | 0 => -1
  | j + 1 => if P (n - (j + 1)) then ((n - (j + 1) : Nat) : Int) else lowK P n j
theorem lowK_cases (P : Nat → Bool) (n : Nat) : ∀ j, j ≤ n → (lowK P n j = -1 ∧ ∀ v, n - j ≤ v → v < n → P v = false) ∨ ∃ v, n - j ≤ v ∧ v < n ∧ lowK P n j = (v : Int) ∧ P v = true ∧ ∀ u, n - j ≤ u → u < v → P u = false
  | 0, _ => .inl ⟨rfl, fun v h1 h2 => by omega⟩
  | j + 1, hj => by
    rw [lowK]
    rcases Bool.eq_false_or_eq_true (P (n - (j + 1))) with e | e
    · rw [if_pos e]
      exact .inr ⟨_, Nat.le_refl _, by omega, rfl, e, fun u h1 h2 => by omega⟩
    · rw [e]
      rcases lowK_cases P n j (by omega) with ⟨h1, h2⟩ | ⟨v, h1, h2, h3, h4, h5⟩
      · refine .inl ⟨h1, fun v h3 h4 => ?_⟩
        rcases Nat.lt_or_ge v (n - j) with h | h
        · obtain rfl : v = n - (j + 1) := by omega
          exact e
        · exact h2 v h h4
      · refine .inr ⟨v, by omega, h2, h3, h4, fun u h6 h7 => ?_⟩
        rcases Nat.lt_or_ge u (n - j) with h | h
        · obtain rfl : u = n - (j + 1) := by omega
          exact e
        · exact h5 u h h7
end Go.Proofs.Ytnaoomchekhcgaa
