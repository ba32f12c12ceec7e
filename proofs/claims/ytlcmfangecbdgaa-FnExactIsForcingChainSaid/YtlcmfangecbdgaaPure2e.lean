/- Chapter 2, plain: the edges of a graph; chapter 12: the band of an order. No program in sight. -/
import Derived.Test.YtlcmfangecbdgaaPure5
namespace Go.Proofs.Ytlcmfangecbdgaa
/-- The edges v, x with v < x < k. -/
def edgV (Q : List Nat) (v : Nat) : Nat → List (Nat × Nat)
  | 0 => []
  | x + 1 => edgV Q v x ++ if v < x ∧ edge Q v x = true then [(v, x)] else []
/-- Those of the first k vertices with the ones behind them. -/
def edgK (Q : List Nat) (n : Nat) : Nat → List (Nat × Nat)
  | 0 => []
  | v + 1 => edgK Q n v ++ edgV Q v n
def edges (Q : List Nat) (n : Nat) : List (Nat × Nat) := edgK Q n n
theorem edgV_yes {Q : List Nat} {v x : Nat} (h : v < x) (e : edge Q v x = true) : edgV Q v (x + 1) = edgV Q v x ++ [(v, x)] := by rw [edgV, if_pos ⟨h, e⟩]
theorem edgV_no {Q : List Nat} {v x : Nat} (e : edge Q v x = false) : edgV Q v (x + 1) = edgV Q v x := by rw [edgV, if_neg fun h => by rw [e] at h; exact Bool.false_ne_true h.2]; simp
theorem edgV_low (Q : List Nat) (v : Nat) : ∀ x, x ≤ v + 1 → edgV Q v x = []
  | 0, _ => rfl
  | x + 1, h => by rw [edgV, edgV_low Q v x (by omega), if_neg fun h' => by omega]; rfl
theorem edgV_len (Q : List Nat) (v : Nat) : ∀ x, (edgV Q v x).length ≤ x
  | 0 => by simp [edgV]
  | x + 1 => by
    have := edgV_len Q v x
    rw [edgV, List.length_append]
    split <;> simp <;> omega
theorem edgK_len (Q : List Nat) (n : Nat) : ∀ k, (edgK Q n k).length ≤ k * n
  | 0 => by simp [edgK]
  | k + 1 => by
    have := edgK_len Q n k
    have := edgV_len Q k n
    rw [edgK, List.length_append, Nat.succ_mul]
    omega
theorem mem_edgV {Q : List Nat} {v : Nat} {p : Nat × Nat} : ∀ {x}, p ∈ edgV Q v x ↔ p.1 = v ∧ v < p.2 ∧ p.2 < x ∧ edge Q v p.2 = true
  | 0 => by simp [edgV]
  | x + 1 => by
    rw [edgV, List.mem_append, mem_edgV]
    constructor
    · rintro (⟨h1, h2, h3, h4⟩ | h)
      · exact ⟨h1, h2, by omega, h4⟩
      · split at h
        · rename_i hc
          obtain rfl : p = (v, x) := by simpa using h
          exact ⟨rfl, hc.1, by show x < x + 1; omega, hc.2⟩
        · cases h
    · rintro ⟨h1, h2, h3, h4⟩
      by_cases e : p.2 = x
      · right
        rw [← e, if_pos ⟨h2, h4⟩, List.mem_singleton, ← h1]
      · exact .inl ⟨h1, h2, by omega, h4⟩
theorem mem_edgK {Q : List Nat} {n : Nat} {p : Nat × Nat} : ∀ {k}, p ∈ edgK Q n k ↔ p.1 < k ∧ p.1 < p.2 ∧ p.2 < n ∧ edge Q p.1 p.2 = true
  | 0 => by simp [edgK]
  | k + 1 => by
    rw [edgK, List.mem_append, mem_edgK, mem_edgV]
    constructor
    · rintro (⟨h1, h2, h3, h4⟩ | ⟨h1, h2, h3, h4⟩)
      · exact ⟨by omega, h2, h3, h4⟩
      · exact ⟨by omega, by omega, h3, by rw [h1]; exact h4⟩
    · rintro ⟨h1, h2, h3, h4⟩
      by_cases e : p.1 = k
      · exact .inr ⟨e, by omega, h3, by rw [← e]; exact h4⟩
      · exact .inl ⟨by omega, h2, h3, h4⟩
theorem edges_len (Q : List Nat) {n : Nat} (h : n ≤ 7) : (edges Q n).length ≤ 49 := Nat.le_trans (edgK_len Q n n) (Nat.mul_le_mul h h)
/-- A pair as a row. -/
def row2 (p : Nat × Nat) : List Int := [(p.1 : Int), (p.2 : Int)]
/-! The band. -/
def gap (o : List Nat) (p : Nat × Nat) : Nat := (place o p.1 - place o p.2) + (place o p.2 - place o p.1)
/-- The program's: over the edges. -/
def bandE (o : List Nat) (l : List (Nat × Nat)) : Nat := l.foldl (fun a p => max a (gap o p)) 0
theorem bandE_snoc (o : List Nat) (l : List (Nat × Nat)) (p : Nat × Nat) : bandE o (l ++ [p]) = max (bandE o l) (gap o p) := by simp [bandE]
theorem bandE_le {o : List Nat} {l : List (Nat × Nat)} {b : Nat} (h : ∀ p ∈ l, gap o p ≤ b) : bandE o l ≤ b := by
  have key : ∀ (l : List (Nat × Nat)) (a : Nat), (∀ p ∈ l, gap o p ≤ b) → a ≤ b → l.foldl (fun a p => max a (gap o p)) a ≤ b := by
    intro l
    induction l with
    | nil => intro a _ ha; exact ha
    | cons p l ih =>
      intro a h ha
      have := h p (List.mem_cons_self ..)
      have h2 : max a (gap o p) ≤ b := by omega
      exact ih _ (fun q hq => h q (List.mem_cons_of_mem _ hq)) h2
  exact key l 0 h (by omega)
theorem le_bandE {o : List Nat} {l : List (Nat × Nat)} {p : Nat × Nat} (h : p ∈ l) : gap o p ≤ bandE o l := by
  have key : ∀ (l : List (Nat × Nat)) (a : Nat), (a ≤ l.foldl (fun a p => max a (gap o p)) a) ∧ (p ∈ l → gap o p ≤ l.foldl (fun a p => max a (gap o p)) a) := by
    intro l
    induction l with
    | nil => intro a; exact ⟨Nat.le_refl _, fun h => by cases h⟩
    | cons q l ih =>
      intro a
      have := ih (max a (gap o q))
      refine ⟨?_, fun h => ?_⟩
      · rw [List.foldl_cons]; omega
      · rw [List.foldl_cons]
        rcases List.mem_cons.1 h with rfl | h
        · omega
        · exact this.2 h
  exact (key l 0).2 h
/-- The reference's: over the pairs of places. -/
def bandJ (Q o : List Nat) (i a : Nat) : Nat → Nat
  | 0 => a
  | k + 1 => if edge Q (nb o i) (nb o k) then max (bandJ Q o i a k) (i - k) else bandJ Q o i a k
def bandI (Q o : List Nat) : Nat → Nat
  | 0 => 0
  | i + 1 => bandJ Q o i (bandI Q o i) i
theorem bandJ_spec (Q o : List Nat) (i a b : Nat) : ∀ k, bandJ Q o i a k ≤ b ↔ a ≤ b ∧ ∀ j, j < k → edge Q (nb o i) (nb o j) = true → i - j ≤ b
  | 0 => by simp [bandJ]
  | k + 1 => by
    have ih := bandJ_spec Q o i a b k
    rw [bandJ]
    rcases Bool.eq_false_or_eq_true (edge Q (nb o i) (nb o k)) with e | e
    · rw [if_pos e]
      constructor
      · intro h
        have h1 := ih.1 (by omega)
        refine ⟨h1.1, fun j hj he => ?_⟩
        rcases Nat.lt_succ_iff_lt_or_eq.1 hj with h' | rfl
        · exact h1.2 j h' he
        · omega
      · rintro ⟨h1, h2⟩
        have := ih.2 ⟨h1, fun j hj => h2 j (by omega)⟩
        have := h2 k (by omega) e
        omega
    · rw [e]
      simp only [Bool.false_eq_true, if_false]
      rw [ih]
      refine and_congr_right fun _ => ⟨fun h j hj he => ?_, fun h j hj => h j (by omega)⟩
      rcases Nat.lt_succ_iff_lt_or_eq.1 hj with h' | rfl
      · exact h j h' he
      · rw [e] at he; cases he
theorem bandI_spec (Q o : List Nat) (b : Nat) : ∀ k, bandI Q o k ≤ b ↔ ∀ i, i < k → ∀ j, j < i → edge Q (nb o i) (nb o j) = true → i - j ≤ b
  | 0 => by simp [bandI]
  | k + 1 => by
    rw [bandI, bandJ_spec, bandI_spec Q o b k]
    constructor
    · rintro ⟨h1, h2⟩ i hi
      rcases Nat.lt_succ_iff_lt_or_eq.1 hi with h' | rfl
      · exact h1 i h'
      · exact h2
    · exact fun h => ⟨fun i hi => h i (by omega), h k (by omega)⟩
theorem band_eq {n : Nat} {Q o : List Nat} (h : GOk n Q) (ho : natVerts n o) (hl : o.length = n) : bandE o (edges Q n) = bandI Q o n := by
  apply Nat.le_antisymm
  · refine bandE_le fun p hp => ?_
    obtain ⟨h1, h2, h3, h4⟩ := mem_edgK.1 hp
    have m1 := ho.all hl h1
    have m2 := ho.all hl h3
    have hs := (bandI_spec Q o (bandI Q o n) n).1 (Nat.le_refl _)
    have p1 := place_lt m1
    have p2 := place_lt m2
    rw [gap]
    rcases Nat.lt_trichotomy (place o p.1) (place o p.2) with hlt | he | hlt
    · have := hs (place o p.2) (by omega) (place o p.1) hlt (by rw [place_at m1, place_at m2, h.edge_comm]; exact h4)
      omega
    · omega
    · have := hs (place o p.1) (by omega) (place o p.2) hlt (by rw [place_at m1, place_at m2]; exact h4)
      omega
  · rw [bandI_spec]
    intro i hi j hj he
    have hio : i < o.length := by omega
    have hjo : j < o.length := by omega
    have hij : nb o i ≠ nb o j := fun e => by have := ho.inj hio hjo e; omega
    have g1 := place_nb ho hio
    have g2 := place_nb ho hjo
    rcases Nat.lt_or_ge (nb o i) (nb o j) with hlt | hge
    · have := le_bandE (o := o) (l := edges Q n) (p := (nb o i, nb o j)) (mem_edgK.2 ⟨ho.at_ hio, hlt, ho.at_ hjo, he⟩)
      rw [gap, g1, g2] at this
      omega
    · have := le_bandE (o := o) (l := edges Q n) (p := (nb o j, nb o i)) (mem_edgK.2 ⟨ho.at_ hjo, by show nb o j < nb o i; omega, ho.at_ hio, by rw [h.edge_comm]; exact he⟩)
      rw [gap, g1, g2] at this
      omega
theorem gap_lt {n : Nat} {Q o : List Nat} (ho : natVerts n o) (hl : o.length = n) {p : Nat × Nat} (hp : p ∈ edges Q n) : gap o p < n := by
  obtain ⟨h1, h2, h3, h4⟩ := mem_edgK.1 hp
  have := place_lt (ho.all hl h1)
  have := place_lt (ho.all hl h3)
  rw [gap]
  omega
def bandOf (N : Int) (X l : List Int) : Int := if isOrder N X l then (bandI (X.map Int.toNat) (l.map Int.toNat) l.length : Nat) else -1
theorem bandOf_no {N : Int} {X l : List Int} (h : isOrder N X l = false) : bandOf N X l = -1 := by rw [bandOf, h]; rfl
theorem bandOf_ok {N : Int} {Q o : List Nat} (h : isOrder N (ints Q) (ints o) = true) : bandOf N (ints Q) (ints o) = (bandI Q o o.length : Nat) := by rw [bandOf, if_pos h, nats_ints4, nats_ints4, ints_len]
end Go.Proofs.Ytlcmfangecbdgaa
