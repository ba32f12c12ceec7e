/- Interval models, plain: no holes, cliques have points, the maximal cliques in the points' order follow one another. No program in sight. -/
import Derived.Test.YthncdjcmlpiebaaGreatDoorPurG
import Derived.Test.YthncdjcmlpiebaaGreatDoorPure10c
import Derived.Test.YthncdjcmlpiebaaGreatDoorPurA
namespace Go.Proofs.YthncdjcmlpiebaaGreatDoor
/-- Intervals whose meetings are the edges. -/
structure IV (n : Nat) (Q : List Nat) (a b : Nat → Int) : Prop where
  le : ∀ v, v < n → a v ≤ b v
  adj : ∀ u v, u < n → v < n → u ≠ v → (edge Q u v = true ↔ a u ≤ b v ∧ a v ≤ b u)
theorem most_of (P : Nat → Prop) (f : Nat → Int) : ∀ n, (∃ v, v < n ∧ P v) → ∃ i, i < n ∧ P i ∧ ∀ j, j < n → P j → f j ≤ f i
  | 0, ⟨v, hv, _⟩ => absurd hv (by omega)
  | n + 1, ⟨v, hv, hp⟩ => by
    by_cases hn : P n
    · by_cases he : ∃ v, v < n ∧ P v
      · obtain ⟨i, h1, h2, h3⟩ := most_of P f n he
        by_cases h4 : f i ≤ f n
        · refine ⟨n, by omega, hn, fun j hj hpj => ?_⟩
          rcases Nat.lt_succ_iff_lt_or_eq.1 hj with h' | rfl
          · have := h3 j h' hpj; omega
          · exact Int.le_refl _
        · refine ⟨i, by omega, h2, fun j hj hpj => ?_⟩
          rcases Nat.lt_succ_iff_lt_or_eq.1 hj with h' | rfl
          · exact h3 j h' hpj
          · omega
      · refine ⟨n, by omega, hn, fun j hj hpj => ?_⟩
        rcases Nat.lt_succ_iff_lt_or_eq.1 hj with h' | rfl
        · exact absurd ⟨j, h', hpj⟩ he
        · exact Int.le_refl _
    · have hvn : v < n := by
        rcases Nat.lt_succ_iff_lt_or_eq.1 hv with h' | rfl
        · exact h'
        · exact absurd hp hn
      obtain ⟨i, h1, h2, h3⟩ := most_of P f n ⟨v, hvn, hp⟩
      refine ⟨i, by omega, h2, fun j hj hpj => ?_⟩
      rcases Nat.lt_succ_iff_lt_or_eq.1 hj with h' | rfl
      · exact h3 j h' hpj
      · exact absurd hpj hn
/-- Each vertex of a hole has two neighbours on it that are no neighbours. -/
theorem hole_apart {n : Nat} {Q o : List Nat} (h : GOk n Q) (hh : HoleP n Q o) {i : Nat} (hi : i < o.length) : ∃ p q, p < o.length ∧ q < o.length ∧ nb o p ≠ nb o q ∧ edge Q (nb o i) (nb o p) = true ∧ edge Q (nb o i) (nb o q) = true ∧ edge Q (nb o p) (nb o q) = false := by
  obtain ⟨ho, h4, hj⟩ := hh
  rw [joinedP_iff] at hj
  have jn : ∀ a b, a < b → b < o.length → jHole o.length a b = true → edge Q (nb o a) (nb o b) = true := fun a b hab hb' e => by rw [hj b hb' a hab]; exact e
  have jf : ∀ a b, a < b → b < o.length → jHole o.length a b = false → edge Q (nb o a) (nb o b) = false := fun a b hab hb' e => by rw [hj b hb' a hab]; exact e
  have jt : ∀ a b, jHole o.length a b = true ↔ b = a + 1 ∨ a = 0 ∧ b + 1 = o.length := fun a b => by simp [jHole]
  have jo : ∀ a b, ¬ (b = a + 1 ∨ a = 0 ∧ b + 1 = o.length) → jHole o.length a b = false := fun a b e => Bool.eq_false_iff.2 fun k => e ((jt a b).1 k)
  have ne : ∀ a b, a < b → b < o.length → nb o a ≠ nb o b := fun a b hab hb' e => by
    have h1 := place_nb ho (show a < o.length by omega)
    have h2 := place_nb ho hb'
    rw [e] at h1
    omega
  rcases Nat.eq_zero_or_pos i with rfl | hi0
  · exact ⟨1, o.length - 1, by omega, by omega, ne _ _ (by omega) (by omega), jn 0 1 (by omega) (by omega) ((jt 0 1).2 (by omega)), jn 0 (o.length - 1) (by omega) (by omega) ((jt _ _).2 (by omega)), jf _ _ (by omega) (by omega) (jo _ _ (by omega))⟩
  · rcases Nat.lt_or_ge (i + 1) o.length with hl | hl
    · exact ⟨i - 1, i + 1, by omega, by omega, ne _ _ (by omega) (by omega), by rw [h.edge_comm]; exact jn (i - 1) i (by omega) (by omega) ((jt _ _).2 (by omega)), jn i (i + 1) (by omega) (by omega) ((jt _ _).2 (by omega)), jf _ _ (by omega) (by omega) (jo _ _ (by omega))⟩
    · exact ⟨0, i - 1, by omega, by omega, ne _ _ (by omega) (by omega), by rw [h.edge_comm]; exact jn 0 i (by omega) (by omega) ((jt _ _).2 (by omega)), by rw [h.edge_comm]; exact jn (i - 1) i (by omega) (by omega) ((jt _ _).2 (by omega)), jf _ _ (by omega) (by omega) (jo _ _ (by omega))⟩
section
variable {n : Nat} {Q : List Nat} {a b : Nat → Int}
theorem IV.no_hole (hi : IV n Q a b) (h : GOk n Q) {o : List Nat} (hh : HoleP n Q o) : False := by
  have h4 := hh.2.1
  obtain ⟨i, h1, _, h2⟩ := most_of (fun _ => True) (fun j => - b (nb o j)) o.length ⟨0, by omega, trivial⟩
  obtain ⟨p, q, hp, hq, hne, e1, e2, e3⟩ := hole_apart h hh h1
  have hv := hh.1.at_ h1
  have hvp := hh.1.at_ hp
  have hvq := hh.1.at_ hq
  have n1 : nb o i ≠ nb o p := fun e => by rw [e, edge_irr h] at e1; cases e1
  have n2 : nb o i ≠ nb o q := fun e => by rw [e, edge_irr h] at e2; cases e2
  have a1 := (hi.adj _ _ hv hvp n1).1 e1
  have a2 := (hi.adj _ _ hv hvq n2).1 e2
  have m1 := h2 p hp trivial
  have m2 := h2 q hq trivial
  have := (hi.adj _ _ hvp hvq hne).2 ⟨by omega, by omega⟩
  rw [this] at e3; cases e3
/-- A clique has a point that all its intervals hold: the greatest left end. -/
theorem IV.point (hi : IV n Q a b) (h : GOk n Q) {s : Nat} (hs : s < 2 ^ n) (h0 : s ≠ 0) (hc : clq Q s = true) : ∃ u, u < n ∧ s.testBit u = true ∧ ∀ v, s.testBit v = true → a v ≤ a u ∧ a u ≤ b v := by
  obtain ⟨v, hv⟩ := bit_of h0
  obtain ⟨u, h1, h2, h3⟩ := most_of (fun v => s.testBit v = true) a n ⟨v, bit_lt hs hv, hv⟩
  refine ⟨u, h1, h2, fun v hv => ⟨h3 v (bit_lt hs hv) hv, ?_⟩⟩
  have hvn := bit_lt hs hv
  by_cases e : u = v
  · subst e; exact hi.le u h1
  · have := (clq_pairs h).1 hc u (by have := h.le; omega) h2 v hv fun k => e k.symm
    exact ((hi.adj u v h1 hvn e).1 this).1
/-- The intervals at a point. -/
def atP (a b : Nat → Int) (n : Nat) (p : Int) : Nat := setN ((List.range n).filter fun v => decide (a v ≤ p) && decide (p ≤ b v))
theorem atP_bit {a b : Nat → Int} {n : Nat} {p : Int} {v : Nat} : (atP a b n p).testBit v = true ↔ v < n ∧ a v ≤ p ∧ p ≤ b v := by
  rw [atP, testBit_setN]; simp
theorem atP_lt {a b : Nat → Int} {n : Nat} {p : Int} : atP a b n p < 2 ^ n := setN_lt fun v hv => by
  have := (List.mem_filter.1 hv).1
  exact List.mem_range.1 this
theorem IV.clq (hi : IV n Q a b) (h : GOk n Q) (p : Int) : clq Q (atP a b n p) = true := by
  rw [clq_pairs h]
  intro u _ hu v hv hne
  obtain ⟨u1, u2, u3⟩ := atP_bit.1 hu
  obtain ⟨v1, v2, v3⟩ := atP_bit.1 hv
  exact (hi.adj u v u1 v1 fun e => hne e.symm).2 ⟨by omega, by omega⟩
theorem maxC_spec {s : Nat} (hs : s ∈ maxCliques Q n) : s ≠ 0 ∧ s < 2 ^ n ∧ maxi Q n s = true ∧ Proofs.YthncdjcmlpiebaaGreatDoor.clq Q s = true := by
  obtain ⟨h1, h2, h3⟩ := mem_maxK hs
  have h4 := h3
  rw [maxi, Bool.and_eq_true] at h4
  exact ⟨by omega, by have := Nat.two_pow_pos n; omega, h3, h4.1⟩
/-- The point of a maximal clique. -/
theorem IV.points (hi : IV n Q a b) (h : GOk n Q) : ∃ p : Nat → Int, ∀ s, s ∈ maxCliques Q n → ∀ v, s.testBit v = true ↔ v < n ∧ a v ≤ p s ∧ p s ≤ b v := by
  have key : ∀ s, ∃ p : Int, s ∈ maxCliques Q n → ∀ v, s.testBit v = true ↔ v < n ∧ a v ≤ p ∧ p ≤ b v := fun s => by
    by_cases hs : s ∈ maxCliques Q n
    · obtain ⟨h1, h2, h3, h4⟩ := maxC_spec hs
      obtain ⟨u, _, _, hu⟩ := hi.point h h2 h1 h4
      refine ⟨a u, fun _ v => ?_⟩
      have := maxi_top h h3 (hi.clq h (a u)) atP_lt fun i hi' => atP_bit.2 ⟨bit_lt h2 hi', hu i hi'⟩
      rw [← atP_bit (a := a) (b := b) (n := n), ← this]
    · exact ⟨0, fun k => absurd k hs⟩
  exact ⟨fun s => Classical.choose (key s), fun s hs => Classical.choose_spec (key s) hs⟩
end
/-- Sets with points, in the points' order, follow one another. -/
theorem fol_points {n : Nat} {a b p : Nat → Int} {l : List Nat} (hl : ∀ s ∈ l, ∀ v, s.testBit v = true ↔ v < n ∧ a v ≤ p s ∧ p s ≤ b v) (hp : l.Pairwise fun s t => p s ≤ p t) : fol l = true := by
  have e : ∀ j, (hj : j < l.length) → nb l j = l[j] := fun j hj => by simp [nb, List.getD, List.getElem?_eq_getElem hj]
  have hle : ∀ i k, i < k → k < l.length → p (nb l i) ≤ p (nb l k) := fun i k hik hk => by
    rw [e i (by omega), e k hk]
    exact List.pairwise_iff_getElem.1 hp i k (by omega) hk hik
  have seen : ∀ v k, (seenK l k).testBit v = true → ∃ j, j < k ∧ (nb l j).testBit v = true := by
    intro v k
    induction k with
    | zero => intro h; simp [seenK] at h
    | succ k ih =>
      intro h
      rw [seenK, Nat.testBit_or, Bool.or_eq_true] at h
      rcases h with h | h
      · obtain ⟨j, h1, h2⟩ := ih h
        exact ⟨j, by omega, h2⟩
      · exact ⟨k, by omega, h⟩
  refine fol_true fun k hk => folAt_brk fun v => ?_
  rw [← Bool.not_eq_true, brk, begAt, Bool.and_eq_true, Bool.and_eq_true, Bool.not_eq_true']
  rintro ⟨⟨h1, h2⟩, h3⟩
  obtain ⟨j, hj, h4⟩ := seen v k h3
  match k, hk, h1, h2, hj with
  | 0, _, _, _, hj => omega
  | k + 1, hk, h1, h2, hj =>
    rw [lastK] at h2
    have m1 := (hl _ (nb_mem hk) v).1 h1
    have m2 := (hl _ (nb_mem (show j < l.length by omega)) v).1 h4
    have : (nb l k).testBit v = true := (hl _ (nb_mem (show k < l.length by omega)) v).2 ⟨m1.1, by
      rcases Nat.lt_succ_iff_lt_or_eq.1 hj with h' | rfl
      · have := hle j k h' (by omega); omega
      · exact m2.2.1, by have := hle k (k + 1) (by omega) hk; omega⟩
    rw [this] at h2; cases h2
theorem ords_mem {L : List Nat} : ∀ {f : Nat} {l t : List Nat}, t.length = f → (l ++ t).Nodup → (∀ s ∈ t, s ∈ L) → (∀ k, k ≤ t.length → fol (l ++ t.take k) = true) → l ++ t ∈ ords L f l
  | 0, l, t, hl, _, _, _ => by
    obtain rfl : t = [] := List.length_eq_zero_iff.1 hl
    simp [ords]
  | f + 1, l, [], hl, _, _, _ => by simp at hl
  | f + 1, l, s :: t, hl, hn, hm, hf => by
    have hs : s ∉ l := fun hs => by
      rw [List.nodup_append] at hn
      exact hn.2.2 s hs s (List.mem_cons_self ..) rfl
    rw [ords, List.mem_flatMap]
    refine ⟨s, hm s (List.mem_cons_self ..), ?_⟩
    have h1 : fol (l ++ [s]) = true := by simpa using hf 1 (by simp)
    rw [mayC, decide_eq_false hs, h1]
    have := ords_mem (L := L) (f := f) (l := l ++ [s]) (t := t) (by simpa using hl) (by simpa using hn) (fun u hu => hm u (List.mem_cons_of_mem _ hu)) fun k hk => by
      have := hf (k + 1) (by simpa using hk)
      simpa using this
    simpa using this
/-- A graph with a model by intervals has an order of its cliques. -/
theorem IV.orders {n : Nat} {Q : List Nat} {a b : Nat → Int} (hi : IV n Q a b) (h : GOk n Q) : ords (maxCliques Q n) (maxCliques Q n).length [] ≠ [] := by
  obtain ⟨p, hp⟩ := hi.points h
  obtain ⟨l, hl⟩ : ∃ l, l = (maxCliques Q n).mergeSort fun s t => decide (p s ≤ p t) := ⟨_, rfl⟩
  have h1 : l.Perm (maxCliques Q n) := by rw [hl]; exact List.mergeSort_perm _ _
  have h2 : l.Pairwise fun s t => p s ≤ p t := by
    rw [hl]
    have := List.pairwise_mergeSort (le := fun s t => decide (p s ≤ p t)) (fun a b c h1 h2 => by simp at *; omega) (fun a b => by simp; omega) (maxCliques Q n)
    exact this.imp fun h => by simpa using h
  have h3 : l.Nodup := h1.nodup_iff.2 (maxK_nodup Q n _)
  have h4 : ∀ s ∈ l, ∀ v, s.testBit v = true ↔ v < n ∧ a v ≤ p s ∧ p s ≤ b v := fun s hs => hp s (h1.mem_iff.1 hs)
  have := ords_mem (L := maxCliques Q n) (f := (maxCliques Q n).length) (l := []) (t := l) h1.length_eq (by simpa using h3) (fun s hs => h1.mem_iff.1 hs) fun k _ => by
    rw [List.nil_append]
    exact fol_points (fun s hs => h4 s (List.mem_of_mem_take hs)) (h2.sublist (List.take_sublist k l))
  intro e
  rw [e] at this; cases this
/-! A model's graph. -/
theorem pairsJ_bits {n : Nat} {J : Nat → Nat → Bool} {Q : List Nat} (hl : Q.length = n) {i : Nat} (hi : i < n) (x y : Nat) : ∀ j, j ≤ i → (pairsJ J Q i j).length = n ∧ ((nb (pairsJ J Q i j) x).testBit y = true ↔ (nb Q x).testBit y = true ∨ ∃ k, k < j ∧ J i k = true ∧ (x = i ∧ y = k ∨ x = k ∧ y = i))
  | 0, _ => ⟨hl, by simp [pairsJ]⟩
  | j + 1, hj => by
    obtain ⟨h1, h2⟩ := pairsJ_bits (J := J) hl hi x y j (by omega)
    rcases Bool.eq_false_or_eq_true (J i j) with e | e
    · rw [pairsJ_yes e]
      refine ⟨by rw [addE_len, h1], ?_⟩
      rw [testBit_addE (by omega) (by omega) (by omega), Bool.or_eq_true, Bool.or_eq_true, h2, decide_eq_true_eq, decide_eq_true_eq]
      constructor
      · rintro (((h' | ⟨k, hk, h'⟩) | h') | h')
        · exact .inl h'
        · exact .inr ⟨k, by omega, h'⟩
        · exact .inr ⟨j, by omega, e, .inl h'⟩
        · exact .inr ⟨j, by omega, e, .inr h'⟩
      · rintro (h' | ⟨k, hk, he, h'⟩)
        · exact .inl (.inl (.inl h'))
        · rcases Nat.lt_succ_iff_lt_or_eq.1 hk with hk | rfl
          · exact .inl (.inl (.inr ⟨k, hk, he, h'⟩))
          · rcases h' with h' | h'
            · exact .inl (.inr h')
            · exact .inr h'
    · rw [pairsJ_no e]
      refine ⟨h1, h2.trans ⟨?_, ?_⟩⟩
      · rintro (h' | ⟨k, hk, h'⟩)
        · exact .inl h'
        · exact .inr ⟨k, by omega, h'⟩
      · rintro (h' | ⟨k, hk, he, h'⟩)
        · exact .inl h'
        · rcases Nat.lt_succ_iff_lt_or_eq.1 hk with hk | rfl
          · exact .inr ⟨k, hk, he, h'⟩
          · rw [e] at he; cases he
theorem graphJ_bits {n : Nat} {J : Nat → Nat → Bool} (x y : Nat) : ∀ i, i ≤ n → (graphJ J n i).length = n ∧ ((nb (graphJ J n i) x).testBit y = true ↔ ∃ u k, u < i ∧ k < u ∧ J u k = true ∧ (x = u ∧ y = k ∨ x = k ∧ y = u))
  | 0, _ => ⟨by simp [graphJ], by
    have : nb (graphJ J n 0) x = 0 := by
      unfold nb
      simp only [graphJ, List.getD_eq_getElem?_getD, List.getElem?_replicate]
      split <;> simp
    rw [this]; simp⟩
  | i + 1, hi => by
    obtain ⟨h1, h2⟩ := graphJ_bits (n := n) (J := J) x y i (by omega)
    obtain ⟨h3, h4⟩ := pairsJ_bits (J := J) h1 (show i < n by omega) x y i (Nat.le_refl _)
    rw [graphJ]
    refine ⟨h3, h4.trans ?_⟩
    rw [h2]
    constructor
    · rintro (⟨u, k, hu, h'⟩ | ⟨k, hk, h'⟩)
      · exact ⟨u, k, by omega, h'⟩
      · exact ⟨i, k, by omega, hk, h'⟩
    · rintro ⟨u, k, hu, hk, h'⟩
      rcases Nat.lt_succ_iff_lt_or_eq.1 hu with hu | rfl
      · exact .inl ⟨u, k, hu, hk, h'⟩
      · exact .inr ⟨k, hk, h'⟩
/-- The graph of a model is that of its intervals. -/
theorem graphRows_iv {L R : List Int} (h : isModel L R = true) : IV L.length (graphRows L R) (fun v => L.getD v 0) (fun v => R.getD v 0) := by
  obtain ⟨_, _, _, hm⟩ := isModel_spec h
  refine ⟨fun v hv => (mOk_iff.1 (hm v hv)).2.1, fun u v hu hv hne => ?_⟩
  rw [edge, graphRows, (graphJ_bits u v _ (Nat.le_refl _)).2]
  have e : ∀ i j, meets L R i j = true ↔ L.getD i 0 ≤ R.getD j 0 ∧ L.getD j 0 ≤ R.getD i 0 := fun i j => by simp [meets]
  constructor
  · rintro ⟨x, k, _, _, hj, ⟨rfl, rfl⟩ | ⟨rfl, rfl⟩⟩
    · exact (e _ _).1 hj
    · have := (e _ _).1 hj
      exact ⟨this.2, this.1⟩
  · intro hj
    rcases Nat.lt_or_ge v u with h' | h'
    · exact ⟨u, v, hu, h', (e _ _).2 hj, .inl ⟨rfl, rfl⟩⟩
    · exact ⟨v, u, hv, by omega, (e _ _).2 ⟨hj.2, hj.1⟩, .inr ⟨rfl, rfl⟩⟩
end Go.Proofs.YthncdjcmlpiebaaGreatDoor
