/- Interval models, plain: no holes, cliques have points, the maximal cliques in the points' order follow one another. No program in sight. Chapter 12, plain: both ways come to the same left ends. No program in sight. Chordal graphs of at most six vertices: an order by intervals or a triple; an umbrella order, a claw or a triple: what the run over them says of any such graph. No program in sight. -/
import Derived.Test.YthncdjcmlpiebaaGreatQi02
import Derived.Test.YthncdjcmlpiebaaGreatQi04
import Derived.Test.YthncdjcmlpiebaaGreatQi09
import Derived.Test.YthncdjcmlpiebaaGreatQi12
namespace Go.Proofs.YthncdjcmlpiebaaGreat
/-- Intervals whose meetings are the edges. -/
structure IV (n : Nat) (Q : List Nat) (a b : Nat → Int) : Prop where
  le : ∀ v, v < n → a v ≤ b v
  adj : ∀ u v, u < n → v < n → u ≠ v → (edge Q u v = true ↔ a u ≤ b v ∧ a v ≤ b u)
theorem most_of (P : Nat → Prop) (f : Nat → Int) : ∀ n, (∃ v, v < n ∧ P v) → ∃ i, i < n ∧ P i ∧ ∀ j, j < n → P j → f j ≤ f i
  | 0, ⟨v, hv, _⟩ => absurd hv (by omega)
  | n + 1, ⟨v, hv, hp⟩ => by
    by_cases hn : P n
    · by_cases he : ∃ v, v < n ∧ P v
      · obtain ⟨i, h1, h2, h3⟩ := most_of P f n he
        by_cases h4 : f i ≤ f n
        · refine ⟨n, by omega, hn, fun j hj hpj => ?_⟩
          rcases Nat.lt_succ_iff_lt_or_eq.1 hj with h' | rfl
          · have := h3 j h' hpj; omega
          · exact Int.le_refl _
        · refine ⟨i, by omega, h2, fun j hj hpj => ?_⟩
          rcases Nat.lt_succ_iff_lt_or_eq.1 hj with h' | rfl
          · exact h3 j h' hpj
          · omega
      · refine ⟨n, by omega, hn, fun j hj hpj => ?_⟩
        rcases Nat.lt_succ_iff_lt_or_eq.1 hj with h' | rfl
        · exact absurd ⟨j, h', hpj⟩ he
        · exact Int.le_refl _
    · have hvn : v < n := by
        rcases Nat.lt_succ_iff_lt_or_eq.1 hv with h' | rfl
        · exact h'
        · exact absurd hp hn
      obtain ⟨i, h1, h2, h3⟩ := most_of P f n ⟨v, hvn, hp⟩
      refine ⟨i, by omega, h2, fun j hj hpj => ?_⟩
      rcases Nat.lt_succ_iff_lt_or_eq.1 hj with h' | rfl
      · exact h3 j h' hpj
      · exact absurd hpj hn
/-- Each vertex of a hole has two neighbours on it that are no neighbours. -/
theorem hole_apart {n : Nat} {Q o : List Nat} (h : GOk n Q) (hh : HoleP n Q o) {i : Nat} (hi : i < o.length) : ∃ p q, p < o.length ∧ q < o.length ∧ nb o p ≠ nb o q ∧ edge Q (nb o i) (nb o p) = true ∧ edge Q (nb o i) (nb o q) = true ∧ edge Q (nb o p) (nb o q) = false := by
  obtain ⟨ho, h4, hj⟩ := hh
  rw [joinedP_iff] at hj
  have jn : ∀ a b, a < b → b < o.length → jHole o.length a b = true → edge Q (nb o a) (nb o b) = true := fun a b hab hb' e => by rw [hj b hb' a hab]; exact e
  have jf : ∀ a b, a < b → b < o.length → jHole o.length a b = false → edge Q (nb o a) (nb o b) = false := fun a b hab hb' e => by rw [hj b hb' a hab]; exact e
  have jt : ∀ a b, jHole o.length a b = true ↔ b = a + 1 ∨ a = 0 ∧ b + 1 = o.length := fun a b => by simp [jHole]
  have jo : ∀ a b, ¬ (b = a + 1 ∨ a = 0 ∧ b + 1 = o.length) → jHole o.length a b = false := fun a b e => Bool.eq_false_iff.2 fun k => e ((jt a b).1 k)
  have ne : ∀ a b, a < b → b < o.length → nb o a ≠ nb o b := fun a b hab hb' e => by
    have h1 := place_nb ho (show a < o.length by omega)
    have h2 := place_nb ho hb'
    rw [e] at h1
    omega
  rcases Nat.eq_zero_or_pos i with rfl | hi0
  · exact ⟨1, o.length - 1, by omega, by omega, ne _ _ (by omega) (by omega), jn 0 1 (by omega) (by omega) ((jt 0 1).2 (by omega)), jn 0 (o.length - 1) (by omega) (by omega) ((jt _ _).2 (by omega)), jf _ _ (by omega) (by omega) (jo _ _ (by omega))⟩
  · rcases Nat.lt_or_ge (i + 1) o.length with hl | hl
    · exact ⟨i - 1, i + 1, by omega, by omega, ne _ _ (by omega) (by omega), by rw [h.edge_comm]; exact jn (i - 1) i (by omega) (by omega) ((jt _ _).2 (by omega)), jn i (i + 1) (by omega) (by omega) ((jt _ _).2 (by omega)), jf _ _ (by omega) (by omega) (jo _ _ (by omega))⟩
    · exact ⟨0, i - 1, by omega, by omega, ne _ _ (by omega) (by omega), by rw [h.edge_comm]; exact jn 0 i (by omega) (by omega) ((jt _ _).2 (by omega)), by rw [h.edge_comm]; exact jn (i - 1) i (by omega) (by omega) ((jt _ _).2 (by omega)), jf _ _ (by omega) (by omega) (jo _ _ (by omega))⟩
section
variable {n : Nat} {Q : List Nat} {a b : Nat → Int}
theorem IV.no_hole (hi : IV n Q a b) (h : GOk n Q) {o : List Nat} (hh : HoleP n Q o) : False := by
  have h4 := hh.2.1
  obtain ⟨i, h1, _, h2⟩ := most_of (fun _ => True) (fun j => - b (nb o j)) o.length ⟨0, by omega, trivial⟩
  obtain ⟨p, q, hp, hq, hne, e1, e2, e3⟩ := hole_apart h hh h1
  have hv := hh.1.at_ h1
  have hvp := hh.1.at_ hp
  have hvq := hh.1.at_ hq
  have n1 : nb o i ≠ nb o p := fun e => by rw [e, edge_irr h] at e1; cases e1
  have n2 : nb o i ≠ nb o q := fun e => by rw [e, edge_irr h] at e2; cases e2
  have a1 := (hi.adj _ _ hv hvp n1).1 e1
  have a2 := (hi.adj _ _ hv hvq n2).1 e2
  have m1 := h2 p hp trivial
  have m2 := h2 q hq trivial
  have := (hi.adj _ _ hvp hvq hne).2 ⟨by omega, by omega⟩
  rw [this] at e3; cases e3
/-- A clique has a point that all its intervals hold: the greatest left end. -/
theorem IV.point (hi : IV n Q a b) (h : GOk n Q) {s : Nat} (hs : s < 2 ^ n) (h0 : s ≠ 0) (hc : clq Q s = true) : ∃ u, u < n ∧ s.testBit u = true ∧ ∀ v, s.testBit v = true → a v ≤ a u ∧ a u ≤ b v := by
  obtain ⟨v, hv⟩ := bit_of h0
  obtain ⟨u, h1, h2, h3⟩ := most_of (fun v => s.testBit v = true) a n ⟨v, bit_lt hs hv, hv⟩
  refine ⟨u, h1, h2, fun v hv => ⟨h3 v (bit_lt hs hv) hv, ?_⟩⟩
  have hvn := bit_lt hs hv
  by_cases e : u = v
  · subst e; exact hi.le u h1
  · have := (clq_pairs h).1 hc u (by have := h.le; omega) h2 v hv fun k => e k.symm
    exact ((hi.adj u v h1 hvn e).1 this).1
/-- The intervals at a point. -/
def atP (a b : Nat → Int) (n : Nat) (p : Int) : Nat := setN ((List.range n).filter fun v => decide (a v ≤ p) && decide (p ≤ b v))
theorem atP_bit {a b : Nat → Int} {n : Nat} {p : Int} {v : Nat} : (atP a b n p).testBit v = true ↔ v < n ∧ a v ≤ p ∧ p ≤ b v := by
  rw [atP, testBit_setN]; simp
theorem atP_lt {a b : Nat → Int} {n : Nat} {p : Int} : atP a b n p < 2 ^ n := setN_lt fun v hv => by
  have := (List.mem_filter.1 hv).1
  exact List.mem_range.1 this
theorem IV.clq (hi : IV n Q a b) (h : GOk n Q) (p : Int) : clq Q (atP a b n p) = true := by
  rw [clq_pairs h]
  intro u _ hu v hv hne
  obtain ⟨u1, u2, u3⟩ := atP_bit.1 hu
  obtain ⟨v1, v2, v3⟩ := atP_bit.1 hv
  exact (hi.adj u v u1 v1 fun e => hne e.symm).2 ⟨by omega, by omega⟩
theorem maxC_spec {s : Nat} (hs : s ∈ maxCliques Q n) : s ≠ 0 ∧ s < 2 ^ n ∧ maxi Q n s = true ∧ Proofs.YthncdjcmlpiebaaGreat.clq Q s = true := by
  obtain ⟨h1, h2, h3⟩ := mem_maxK hs
  have h4 := h3
  rw [maxi, Bool.and_eq_true] at h4
  exact ⟨by omega, by have := Nat.two_pow_pos n; omega, h3, h4.1⟩
/-- The point of a maximal clique. -/
theorem IV.points (hi : IV n Q a b) (h : GOk n Q) : ∃ p : Nat → Int, ∀ s, s ∈ maxCliques Q n → ∀ v, s.testBit v = true ↔ v < n ∧ a v ≤ p s ∧ p s ≤ b v := by
  have key : ∀ s, ∃ p : Int, s ∈ maxCliques Q n → ∀ v, s.testBit v = true ↔ v < n ∧ a v ≤ p ∧ p ≤ b v := fun s => by
    by_cases hs : s ∈ maxCliques Q n
    · obtain ⟨h1, h2, h3, h4⟩ := maxC_spec hs
      obtain ⟨u, _, _, hu⟩ := hi.point h h2 h1 h4
      refine ⟨a u, fun _ v => ?_⟩
      have := maxi_top h h3 (hi.clq h (a u)) atP_lt fun i hi' => atP_bit.2 ⟨bit_lt h2 hi', hu i hi'⟩
      rw [← atP_bit (a := a) (b := b) (n := n), ← this]
    · exact ⟨0, fun k => absurd k hs⟩
  exact ⟨fun s => Classical.choose (key s), fun s hs => Classical.choose_spec (key s) hs⟩
end
/-- Sets with points, in the points' order, follow one another. -/
theorem fol_points {n : Nat} {a b p : Nat → Int} {l : List Nat} (hl : ∀ s ∈ l, ∀ v, s.testBit v = true ↔ v < n ∧ a v ≤ p s ∧ p s ≤ b v) (hp : l.Pairwise fun s t => p s ≤ p t) : fol l = true := by
  have e : ∀ j, (hj : j < l.length) → nb l j = l[j] := fun j hj => by simp [nb, List.getD, List.getElem?_eq_getElem hj]
  have hle : ∀ i k, i < k → k < l.length → p (nb l i) ≤ p (nb l k) := fun i k hik hk => by
    rw [e i (by omega), e k hk]
    exact List.pairwise_iff_getElem.1 hp i k (by omega) hk hik
  have seen : ∀ v k, (seenK l k).testBit v = true → ∃ j, j < k ∧ (nb l j).testBit v = true := by
    intro v k
    induction k with
    | zero => intro h; simp [seenK] at h
    | succ k ih =>
      intro h
      rw [seenK, Nat.testBit_or, Bool.or_eq_true] at h
      rcases h with h | h
      · obtain ⟨j, h1, h2⟩ := ih h
        exact ⟨j, by omega, h2⟩
      · exact ⟨k, by omega, h⟩
  refine fol_true fun k hk => folAt_brk fun v => ?_
  rw [← Bool.not_eq_true, brk, begAt, Bool.and_eq_true, Bool.and_eq_true, Bool.not_eq_true']
  rintro ⟨⟨h1, h2⟩, h3⟩
  obtain ⟨j, hj, h4⟩ := seen v k h3
  match k, hk, h1, h2, hj with
  | 0, _, _, _, hj => omega
  | k + 1, hk, h1, h2, hj =>
    rw [lastK] at h2
    have m1 := (hl _ (nb_mem hk) v).1 h1
    have m2 := (hl _ (nb_mem (show j < l.length by omega)) v).1 h4
    have : (nb l k).testBit v = true := (hl _ (nb_mem (show k < l.length by omega)) v).2 ⟨m1.1, by
      rcases Nat.lt_succ_iff_lt_or_eq.1 hj with h' | rfl
      · have := hle j k h' (by omega); omega
      · exact m2.2.1, by have := hle k (k + 1) (by omega) hk; omega⟩
    rw [this] at h2; cases h2
theorem ords_mem {L : List Nat} : ∀ {f : Nat} {l t : List Nat}, t.length = f → (l ++ t).Nodup → (∀ s ∈ t, s ∈ L) → (∀ k, k ≤ t.length → fol (l ++ t.take k) = true) → l ++ t ∈ ords L f l
  | 0, l, t, hl, _, _, _ => by
    obtain rfl : t = [] := List.length_eq_zero_iff.1 hl
    simp [ords]
  | f + 1, l, [], hl, _, _, _ => by simp at hl
  | f + 1, l, s :: t, hl, hn, hm, hf => by
    have hs : s ∉ l := fun hs => by
      rw [List.nodup_append] at hn
      exact hn.2.2 s hs s (List.mem_cons_self ..) rfl
    rw [ords, List.mem_flatMap]
    refine ⟨s, hm s (List.mem_cons_self ..), ?_⟩
    have h1 : fol (l ++ [s]) = true := by simpa using hf 1 (by simp)
    rw [mayC, decide_eq_false hs, h1]
    have := ords_mem (L := L) (f := f) (l := l ++ [s]) (t := t) (by simpa using hl) (by simpa using hn) (fun u hu => hm u (List.mem_cons_of_mem _ hu)) fun k hk => by
      have := hf (k + 1) (by simpa using hk)
      simpa using this
    simpa using this
/-- A graph with a model by intervals has an order of its cliques. -/
theorem IV.orders {n : Nat} {Q : List Nat} {a b : Nat → Int} (hi : IV n Q a b) (h : GOk n Q) : ords (maxCliques Q n) (maxCliques Q n).length [] ≠ [] := by
  obtain ⟨p, hp⟩ := hi.points h
  obtain ⟨l, hl⟩ : ∃ l, l = (maxCliques Q n).mergeSort fun s t => decide (p s ≤ p t) := ⟨_, rfl⟩
  have h1 : l.Perm (maxCliques Q n) := by rw [hl]; exact List.mergeSort_perm _ _
  have h2 : l.Pairwise fun s t => p s ≤ p t := by
    rw [hl]
    have := List.pairwise_mergeSort (le := fun s t => decide (p s ≤ p t)) (fun a b c h1 h2 => by simp at *; omega) (fun a b => by simp; omega) (maxCliques Q n)
    exact this.imp fun h => by simpa using h
  have h3 : l.Nodup := h1.nodup_iff.2 (maxK_nodup Q n _)
  have h4 : ∀ s ∈ l, ∀ v, s.testBit v = true ↔ v < n ∧ a v ≤ p s ∧ p s ≤ b v := fun s hs => hp s (h1.mem_iff.1 hs)
  have := ords_mem (L := maxCliques Q n) (f := (maxCliques Q n).length) (l := []) (t := l) h1.length_eq (by simpa using h3) (fun s hs => h1.mem_iff.1 hs) fun k _ => by
    rw [List.nil_append]
    exact fol_points (fun s hs => h4 s (List.mem_of_mem_take hs)) (h2.sublist (List.take_sublist k l))
  intro e
  rw [e] at this; cases this
theorem pairsJ_bits {n : Nat} {J : Nat → Nat → Bool} {Q : List Nat} (hl : Q.length = n) {i : Nat} (hi : i < n) (x y : Nat) : ∀ j, j ≤ i → (pairsJ J Q i j).length = n ∧ ((nb (pairsJ J Q i j) x).testBit y = true ↔ (nb Q x).testBit y = true ∨ ∃ k, k < j ∧ J i k = true ∧ (x = i ∧ y = k ∨ x = k ∧ y = i))
  | 0, _ => ⟨hl, by simp [pairsJ]⟩
  | j + 1, hj => by
    obtain ⟨h1, h2⟩ := pairsJ_bits (J := J) hl hi x y j (by omega)
    rcases Bool.eq_false_or_eq_true (J i j) with e | e
    · rw [pairsJ_yes e]
      refine ⟨by rw [addE_len, h1], ?_⟩
      rw [testBit_addE (by omega) (by omega) (by omega), Bool.or_eq_true, Bool.or_eq_true, h2, decide_eq_true_eq, decide_eq_true_eq]
      constructor
      · rintro (((h' | ⟨k, hk, h'⟩) | h') | h')
        · exact .inl h'
        · exact .inr ⟨k, by omega, h'⟩
        · exact .inr ⟨j, by omega, e, .inl h'⟩
        · exact .inr ⟨j, by omega, e, .inr h'⟩
      · rintro (h' | ⟨k, hk, he, h'⟩)
        · exact .inl (.inl (.inl h'))
        · rcases Nat.lt_succ_iff_lt_or_eq.1 hk with hk | rfl
          · exact .inl (.inl (.inr ⟨k, hk, he, h'⟩))
          · rcases h' with h' | h'
            · exact .inl (.inr h')
            · exact .inr h'
    · rw [pairsJ_no e]
      refine ⟨h1, h2.trans ⟨?_, ?_⟩⟩
      · rintro (h' | ⟨k, hk, h'⟩)
        · exact .inl h'
        · exact .inr ⟨k, by omega, h'⟩
      · rintro (h' | ⟨k, hk, he, h'⟩)
        · exact .inl h'
        · rcases Nat.lt_succ_iff_lt_or_eq.1 hk with hk | rfl
          · exact .inr ⟨k, hk, he, h'⟩
          · rw [e] at he; cases he
theorem graphJ_bits {n : Nat} {J : Nat → Nat → Bool} (x y : Nat) : ∀ i, i ≤ n → (graphJ J n i).length = n ∧ ((nb (graphJ J n i) x).testBit y = true ↔ ∃ u k, u < i ∧ k < u ∧ J u k = true ∧ (x = u ∧ y = k ∨ x = k ∧ y = u))
  | 0, _ => ⟨by simp [graphJ], by
    have : nb (graphJ J n 0) x = 0 := by
      unfold nb
      simp only [graphJ, List.getD_eq_getElem?_getD, List.getElem?_replicate]
      split <;> simp
    rw [this]; simp⟩
  | i + 1, hi => by
    obtain ⟨h1, h2⟩ := graphJ_bits (n := n) (J := J) x y i (by omega)
    obtain ⟨h3, h4⟩ := pairsJ_bits (J := J) h1 (show i < n by omega) x y i (Nat.le_refl _)
    rw [graphJ]
    refine ⟨h3, h4.trans ?_⟩
    rw [h2]
    constructor
    · rintro (⟨u, k, hu, h'⟩ | ⟨k, hk, h'⟩)
      · exact ⟨u, k, by omega, h'⟩
      · exact ⟨i, k, by omega, hk, h'⟩
    · rintro ⟨u, k, hu, hk, h'⟩
      rcases Nat.lt_succ_iff_lt_or_eq.1 hu with hu | rfl
      · exact .inl ⟨u, k, hu, hk, h'⟩
      · exact .inr ⟨k, hk, h'⟩
/-- The graph of a model is that of its intervals. -/
theorem graphRows_iv {L R : List Int} (h : isModel L R = true) : IV L.length (graphRows L R) (fun v => L.getD v 0) (fun v => R.getD v 0) := by
  obtain ⟨_, _, _, hm⟩ := isModel_spec h
  refine ⟨fun v hv => (mOk_iff.1 (hm v hv)).2.1, fun u v hu hv hne => ?_⟩
  rw [edge, graphRows, (graphJ_bits u v _ (Nat.le_refl _)).2]
  have e : ∀ i j, meets L R i j = true ↔ L.getD i 0 ≤ R.getD j 0 ∧ L.getD j 0 ≤ R.getD i 0 := fun i j => by simp [meets]
  constructor
  · rintro ⟨x, k, _, _, hj, ⟨rfl, rfl⟩ | ⟨rfl, rfl⟩⟩
    · exact (e _ _).1 hj
    · have := (e _ _).1 hj
      exact ⟨this.2, this.1⟩
  · intro hj
    rcases Nat.lt_or_ge v u with h' | h'
    · exact ⟨u, v, hu, h', (e _ _).2 hj, .inl ⟨rfl, rfl⟩⟩
    · exact ⟨v, u, hv, by omega, (e _ _).2 ⟨hj.2, hj.1⟩, .inr ⟨rfl, rfl⟩⟩
end Go.Proofs.YthncdjcmlpiebaaGreat
namespace Go.Proofs.YthncdjcmlpiebaaGreat
section
variable {J J' : Nat → Nat → Bool} {n : Nat}
end
def farU (J : Nat → Nat → Bool) (i : Nat) : Nat → Nat
  | 0 => i
  | k + 1 => if i < k ∧ J i k = true then k else farU J i k
theorem farK_ge (J : Nat → Nat → Bool) (i : Nat) : ∀ k, i ≤ farU J i k
  | 0 => Nat.le_refl _
  | k + 1 => by
    rw [farU]
    split
    · omega
    · exact farK_ge J i k
theorem farK_lt {J : Nat → Nat → Bool} {i n : Nat} (hi : i < n) : ∀ k, k ≤ n → farU J i k < n
  | 0, _ => hi
  | k + 1, hk => by
    rw [farU]
    split
    · omega
    · exact farK_lt hi k (by omega)
theorem farK_adj {J : Nat → Nat → Bool} {i : Nat} : ∀ {k}, i < farU J i k → J i (farU J i k) = true
  | 0, h => by rw [farU] at h; omega
  | k + 1, h => by
    rw [farU] at h ⊢
    split
    · rename_i hc; exact hc.2
    · rename_i hc; rw [if_neg hc] at h; exact farK_adj h
theorem le_farK {J : Nat → Nat → Bool} {i j : Nat} : ∀ {k}, j < k → i < j → J i j = true → j ≤ farU J i k
  | 0, h, _, _ => by omega
  | k + 1, h, h1, h2 => by
    rw [farU]
    split
    · omega
    · rename_i hc
      rcases Nat.lt_succ_iff_lt_or_eq.1 h with h | rfl
      · exact le_farK h h1 h2
      · exact absurd ⟨h1, h2⟩ hc
end Go.Proofs.YthncdjcmlpiebaaGreat
namespace Go.Proofs.YthncdjcmlpiebaaGreat
theorem nbU_lt {l : List Nat} {v i : Nat} (h : i < l.length) : nb (l ++ [v]) i = nb l i := by
  simp [nb, List.getD, List.getElem?_append_left h]
theorem nbU_at {l : List Nat} {v : Nat} : nb (l ++ [v]) l.length = v := by simp [nb, List.getD]
theorem nbU_map {q : List Nat} {f : Nat → Nat} {i : Nat} (h : i < q.length) : nb (q.map f) i = f (nb q i) := by
  simp [nb, List.getD, List.getElem?_map, List.getElem?_eq_getElem h]
theorem nbU_rev {t : List Nat} {i : Nat} (h : i < t.length) : nb t.reverse i = nb t (t.length - 1 - i) := by
  simp [nb, List.getD, List.getElem?_reverse h]
theorem nbU_mem {l : List Nat} {v : Nat} (h : v ∈ l) : ∃ i, i < l.length ∧ nb l i = v := by
  obtain ⟨i, hi, e⟩ := List.mem_iff_getElem.1 h
  exact ⟨i, hi, by simp [nb, List.getD, List.getElem?_eq_getElem hi, e]⟩
/-- Whose earlier neighbours are neighbours of each other. -/
def Perf (Q o : List Nat) : Prop := ∀ i j k, i < j → j < k → k < o.length → edge Q (nb o k) (nb o i) = true → edge Q (nb o k) (nb o j) = true → edge Q (nb o i) (nb o j) = true
/-- By left ends: whoever stands between two neighbours is a neighbour of the first. -/
def OrdI (Q q : List Nat) : Prop := ∀ i j k, i < j → j < k → k < q.length → edge Q (nb q i) (nb q k) = true → edge Q (nb q i) (nb q j) = true
/-- .. and of the second. -/
def OrdU (Q q : List Nat) : Prop := ∀ i j k, i < j → j < k → k < q.length → edge Q (nb q i) (nb q k) = true → edge Q (nb q k) (nb q j) = true
theorem elim_perf {n : Nat} {Q t : List Nat} (h : GOk n Q) (ho : natVerts n t) (he : elimAll Q t n = true) : Perf Q t.reverse := by
  intro i j k hij hjk hk e1 e2
  rw [List.length_reverse] at hk
  rw [nbU_rev (by omega), nbU_rev (by omega)] at e1 e2
  rw [nbU_rev (by omega), nbU_rev (by omega)]
  obtain ⟨a, ha⟩ : ∃ a, a = t.length - 1 - i := ⟨_, rfl⟩
  obtain ⟨b, hb⟩ : ∃ b, b = t.length - 1 - j := ⟨_, rfl⟩
  obtain ⟨c, hc⟩ : ∃ c, c = t.length - 1 - k := ⟨_, rfl⟩
  rw [← ha, ← hc] at e1
  rw [← hb, ← hc] at e2
  rw [← ha, ← hb]
  have hab : b < a := by omega
  have hcb : c < b := by omega
  have hat : a < t.length := by omega
  have hv := ho.at_ (j := c) (by omega)
  have h1 := List.all_eq_true.1 he (nb t c) (List.mem_range.2 hv)
  rw [clq_pairs h] at h1
  have hm : ∀ x, c < x → x < t.length → nb t x ∈ t.drop (place t (nb t c)) := fun x hx hxt => by
    rw [place_nb ho (by omega), List.mem_iff_getElem]
    refine ⟨x - c, by rw [List.length_drop]; omega, ?_⟩
    rw [List.getElem_drop]
    have e : c + (x - c) = x := by omega
    simp only [e]
    simp [nb, List.getD, List.getElem?_eq_getElem hxt]
  have hbit : ∀ x, c < x → x < t.length → edge Q (nb t c) (nb t x) = true → (ltr Q t (nb t c)).testBit (nb t x) = true := fun x hx hxt e => by
    rw [ltr, Nat.testBit_and, testBit_setN, decide_eq_true (hm x hx hxt), Bool.and_true]
    exact e
  refine h1 (nb t a) (by have := ho.at_ (j := a) hat; have := h.le; omega) (hbit a (by omega) hat e1) (nb t b) (hbit b hcb (by omega) e2) fun e => ?_
  have := ho.inj (i := b) (j := a) (by omega) hat e
  omega
theorem nb_extG {Q : List Nat} {k c : Nat} (hl : Q.length = k) (i j : Nat) : (nb (extG Q k c) i).testBit j = if i < k then ((nb Q i).testBit j || (c.testBit i && decide (k = j))) else if i = k then c.testBit j else false := by
  unfold nb extG
  rcases Nat.lt_trichotomy i k with h | h | h
  · rw [if_pos h]
    have h' : i < Q.length := by omega
    simp only [List.getD_eq_getElem?_getD]
    rw [List.getElem?_append_left (by rw [List.length_mapIdx]; exact h'), List.getElem?_mapIdx, List.getElem?_eq_getElem h']
    simp only [Option.map_some, Option.getD_some]
    by_cases hc : c.testBit i = true
    · rw [if_pos hc, hc, Nat.testBit_or, Nat.testBit_two_pow, Bool.true_and]
    · rw [if_neg hc, Bool.eq_false_iff.mpr hc, Bool.false_and, Bool.or_false]
  · rw [if_neg (by omega), if_pos h]
    subst h
    subst hl
    simp [List.getD_eq_getElem?_getD]
  · rw [if_neg (by omega), if_neg (by omega)]
    simp only [List.getD_eq_getElem?_getD]
    rw [List.getElem?_eq_none (by simp; omega)]
    simp
def posC (Q o : List Nat) (k : Nat) : Nat := setN ((List.range k).filter fun j => edge Q (nb o k) (nb o j))
theorem posC_bit (Q o : List Nat) (k j : Nat) : (posC Q o k).testBit j = (decide (j < k) && edge Q (nb o k) (nb o j)) := by
  rw [posC, testBit_setN, Bool.eq_iff_iff, decide_eq_true_eq, List.mem_filter, List.mem_range, Bool.and_eq_true, decide_eq_true_eq]
def posG (Q o : List Nat) : Nat → List Nat
  | 0 => []
  | k + 1 => extG (posG Q o k) k (posC Q o k)
theorem posG_len (Q o : List Nat) : ∀ k, (posG Q o k).length = k
  | 0 => rfl
  | k + 1 => by rw [posG, extG, List.length_append, List.length_mapIdx, posG_len Q o k]; rfl
theorem posG_bit {n : Nat} {Q o : List Nat} (h : GOk n Q) : ∀ k i j, (nb (posG Q o k) i).testBit j = (decide (i < k) && decide (j < k) && edge Q (nb o i) (nb o j))
  | 0, i, j => by
    have : nb (posG Q o 0) i = 0 := by simp [nb, posG, List.getD]
    rw [this, Nat.zero_testBit, decide_eq_false (by omega)]; rfl
  | k + 1, i, j => by
    rw [posG, nb_extG (posG_len Q o k), posG_bit h k i j, posC_bit, posC_bit]
    have hirr := edge_irr h (nb o k)
    have hc := h.edge_comm (nb o k) (nb o i)
    rcases Nat.lt_trichotomy i k with h1 | h1 | h1
    · rw [if_pos h1, decide_eq_true h1, decide_eq_true (by omega : i < k + 1), Bool.true_and, Bool.true_and, Bool.true_and]
      rcases Nat.lt_trichotomy j k with h2 | h2 | h2
      · rw [decide_eq_true h2, decide_eq_true (by omega : j < k + 1), decide_eq_false (by omega : ¬ k = j)]; simp
      · subst h2
        rw [decide_eq_false (by omega : ¬ j < j), decide_eq_true (by omega : j < j + 1), decide_eq_true rfl, hc]; simp
      · rw [decide_eq_false (by omega : ¬ j < k), decide_eq_false (by omega : ¬ j < k + 1), decide_eq_false (by omega : ¬ k = j)]; simp
    · subst h1
      rw [if_neg (by omega), if_pos rfl, decide_eq_true (by omega : i < i + 1), Bool.true_and]
      rcases Nat.lt_trichotomy j i with h2 | h2 | h2
      · rw [decide_eq_true h2, decide_eq_true (by omega : j < i + 1)]
      · subst h2
        rw [hirr, Bool.and_false, Bool.and_false]
      · rw [decide_eq_false (by omega : ¬ j < i), decide_eq_false (by omega : ¬ j < i + 1)]
    · rw [if_neg (by omega), if_neg (by omega), decide_eq_false (by omega : ¬ i < k + 1)]; rfl
theorem posG_edge {n : Nat} {Q o : List Nat} (h : GOk n Q) {k i j : Nat} (hi : i < k) (hj : j < k) : edge (posG Q o k) i j = edge Q (nb o i) (nb o j) := by
  rw [edge, posG_bit h, decide_eq_true hi, decide_eq_true hj]; rfl
theorem posG_ok {n : Nat} {Q o : List Nat} (h : GOk n Q) {k : Nat} (h1 : 1 ≤ k) (h7 : k ≤ 7) : GOk k (posG Q o k) := by
  refine ⟨h1, h7, posG_len Q o k, fun i => Nat.lt_pow_two_of_testBit _ fun j hj => ?_, fun i => ?_, fun i j => ?_⟩
  · rw [posG_bit h, decide_eq_false (by omega : ¬ j < k), Bool.and_false]; rfl
  · rw [posG_bit h, edge_irr h, Bool.and_false]
  · rw [posG_bit h, posG_bit h, h.edge_comm, Bool.and_comm (decide (i < k))]
theorem posC_clq {n : Nat} {Q o : List Nat} (h : GOk n Q) (hp : Perf Q o) {k : Nat} (hk : k < o.length) : clq (posG Q o k) (posC Q o k) = true := by
  rw [clq_iff]
  intro v _ hv
  rw [posC_bit, Bool.and_eq_true, decide_eq_true_eq] at hv
  rw [clqAt, beq_iff_eq]
  apply Nat.eq_of_testBit_eq
  intro i
  rw [testBit_dif, Nat.testBit_two_pow, posC_bit, posG_bit h, decide_eq_true hv.1]
  by_cases hik : i < k
  · rw [decide_eq_true hik, Bool.true_and, Bool.true_and, Bool.true_and]
    by_cases e : v = i
    · subst e
      rw [decide_eq_true rfl, edge_irr h, hv.2]; rfl
    · rw [decide_eq_false e]
      rcases Bool.eq_false_or_eq_true (edge Q (nb o k) (nb o i)) with e1 | e1
      · have : edge Q (nb o v) (nb o i) = true := by
          rcases Nat.lt_or_ge v i with h1 | h1
          · exact hp v i k h1 hik hk hv.2 e1
          · rw [h.edge_comm]; exact hp i v k (by omega) hv.1 hk e1 hv.2
        rw [this, e1]; rfl
      · rw [e1]; rfl
  · rw [decide_eq_false hik, decide_eq_false (by omega : ¬ v = i)]; rfl
theorem allX_pos {P : List Nat → Nat → Bool} {n : Nat} {Q o : List Nat} (h : GOk n Q) (hp : Perf Q o) (hl : o.length = n) : ∀ f k, k + f = n → allX P f k (posG Q o k) = true → P (posG Q o n) n = true
  | 0, k, hk, ha => by obtain rfl : k = n := by omega
                       exact ha
  | f + 1, k, hk, ha => by
    rw [allX, List.all_eq_true] at ha
    have hlt : posC Q o k < 2 ^ k := setN_lt fun v hv => by
      have := (List.mem_filter.1 hv).1
      exact List.mem_range.1 this
    have h1 := ha (posC Q o k) (List.mem_range.2 hlt)
    rw [posC_clq h hp (by omega), Bool.not_true, Bool.false_or] at h1
    exact allX_pos h hp hl f (k + 1) (by omega) h1
structure Plc (Q : List Nat) (n : Nat) (l : List Nat) (S O : Nat) : Prop where
  nd : l.Nodup
  lt : ∀ v ∈ l, v < n
  s : ∀ u, S.testBit u = true ↔ u ∈ l
  o : ∀ i, i < l.length → (O.testBit (nb l i) = true ↔ ∀ j, i < j → j < l.length → edge Q (nb l i) (nb l j) = true)
  ord : OrdI Q l
theorem Plc.nil (Q : List Nat) (n : Nat) : Plc Q n [] 0 0 := ⟨List.nodup_nil, fun _ h => (by cases h), fun u => (by simp), fun i h => absurd h (by simp), fun i j k _ _ h => absurd h (by simp)⟩
theorem Plc.next {Q : List Nat} {n : Nat} {l : List Nat} {S O v : Nat} (h : GOk n Q) (H : Plc Q n l S O) (hv : v < n) (hS : S.testBit v = false) (hd : dif (nb Q v &&& S) O = 0) : Plc Q n (l ++ [v]) (S ||| 2 ^ v) ((O &&& nb Q v) ||| 2 ^ v) := by
  have hvl : v ∉ l := fun hm => by rw [(H.s v).2 hm] at hS; cases hS
  have hne : ∀ i, i < l.length → nb l i ≠ v := fun i hi e => hvl (e ▸ nb_mem hi)
  refine ⟨?_, ?_, fun u => ?_, fun i hi => ?_, fun i j k hij hjk hk e => ?_⟩
  · rw [List.nodup_append]
    exact ⟨H.nd, by simp, fun a ha b hb e => by
      rw [List.mem_singleton] at hb
      subst hb; subst e
      exact hvl ha⟩
  · intro u hu
    rcases List.mem_append.1 hu with hu | hu
    · exact H.lt u hu
    · rw [List.mem_singleton] at hu; omega
  · rw [Nat.testBit_or, Nat.testBit_two_pow, Bool.or_eq_true, H.s, decide_eq_true_eq, List.mem_append, List.mem_singleton]
    constructor
    · rintro (h1 | h1)
      · exact .inl h1
      · exact .inr h1.symm
    · rintro (h1 | h1)
      · exact .inl h1
      · exact .inr h1.symm
  · rw [List.length_append, List.length_singleton] at hi
    rcases Nat.lt_or_ge i l.length with hlt | hge
    · rw [nbU_lt hlt, Nat.testBit_or, Nat.testBit_and, Nat.testBit_two_pow, decide_eq_false (Ne.symm (hne i hlt)), Bool.or_false, Bool.and_eq_true, H.o i hlt]
      constructor
      · rintro ⟨h1, h2⟩ j hij hj
        rw [List.length_append, List.length_singleton] at hj
        rcases Nat.lt_or_ge j l.length with hj2 | hj2
        · rw [nbU_lt hj2]; exact h1 j hij hj2
        · obtain rfl : j = l.length := by omega
          rw [nbU_at, h.edge_comm]; exact h2
      · intro h1
        refine ⟨fun j hij hj => ?_, ?_⟩
        · have := h1 j hij (by simp; omega)
          rwa [nbU_lt hj] at this
        · have := h1 l.length hlt (by simp)
          rw [nbU_at, h.edge_comm] at this
          exact this
    · obtain rfl : i = l.length := by omega
      rw [nbU_at, Nat.testBit_or, Nat.testBit_two_pow, decide_eq_true rfl, Bool.or_true]
      exact ⟨fun _ j hij hj => by simp at hj; omega, fun _ => rfl⟩
  · rw [List.length_append, List.length_singleton] at hk
    rw [nbU_lt (by omega : i < l.length)] at e ⊢
    rw [nbU_lt (by omega : j < l.length)]
    rcases Nat.lt_or_ge k l.length with hlt | hge
    · rw [nbU_lt hlt] at e
      exact H.ord i j k hij hjk hlt e
    · obtain rfl : k = l.length := by omega
      rw [nbU_at, h.edge_comm] at e
      have hb : (nb Q v &&& S).testBit (nb l i) = true := by
        rw [Nat.testBit_and, (H.s _).2 (nb_mem (by omega)), Bool.and_true]; exact e
      have ho : O.testBit (nb l i) = true := by
        have := congrArg (fun x => x.testBit (nb l i)) hd
        simp only [testBit_dif, hb, Nat.zero_testBit, Bool.true_and, Bool.not_eq_false'] at this
        exact this
      exact (H.o i (by omega)).1 ho j hij (by omega)
theorem ivS_ord {n : Nat} {Q : List Nat} (h : GOk n Q) : ∀ f l S O, Plc Q n l S O → ivS Q n f S O = true → ∃ q, q.length = l.length + f ∧ natVerts n q ∧ OrdI Q q
  | 0, l, S, O, H, _ => ⟨l, rfl, ⟨H.lt, H.nd⟩, H.ord⟩
  | f + 1, l, S, O, H, hs => by
    rw [ivS, List.any_eq_true] at hs
    obtain ⟨v, hv, hs⟩ := hs
    rw [Bool.and_eq_true, Bool.and_eq_true, beq_iff_eq, Bool.not_eq_true'] at hs
    obtain ⟨⟨h1, h2⟩, h3⟩ := hs
    obtain ⟨q, hq, h4⟩ := ivS_ord h f _ _ _ (H.next h (List.mem_range.1 hv) h1 h2) h3
    exact ⟨q, by rw [hq, List.length_append, List.length_singleton]; omega, h4⟩
theorem dropWhile_pre {p : Nat → Bool} : ∀ {o : List Nat}, ((o.dropWhile p).all fun u => !p u) = true → ∀ a b, a < b → b < o.length → p (nb o b) = true → p (nb o a) = true
  | [], _, a, b, _, hb, _ => absurd hb (by simp)
  | x :: o, h, a, b, hab, hb, e => by
    obtain ⟨b, rfl⟩ : ∃ c, b = c + 1 := ⟨b - 1, by omega⟩
    have e1 : nb (x :: o) (b + 1) = nb o b := by simp [nb, List.getD]
    rw [e1] at e
    by_cases hx : p x = true
    · rw [List.dropWhile_cons_of_pos hx] at h
      cases a with
      | zero => exact hx
      | succ a =>
        have e2 : nb (x :: o) (a + 1) = nb o a := by simp [nb, List.getD]
        rw [e2]
        exact dropWhile_pre h a b (by omega) (by simpa using hb) e
    · rw [List.dropWhile_cons_of_neg hx, List.all_eq_true] at h
      have := h (nb o b) (List.mem_cons_of_mem _ (nb_mem (by simpa using hb)))
      rw [e] at this; cases this
theorem umS_ord {n : Nat} {Q : List Nat} (h : GOk n Q) : ∀ f l S O, Plc Q n l S O → OrdU Q l → umS Q n f l.reverse S O = true → ∃ q, q.length = l.length + f ∧ natVerts n q ∧ OrdI Q q ∧ OrdU Q q
  | 0, l, S, O, H, hu, _ => ⟨l, rfl, ⟨H.lt, H.nd⟩, H.ord, hu⟩
  | f + 1, l, S, O, H, hu, hs => by
    rw [umS, List.any_eq_true] at hs
    obtain ⟨v, hv, hs⟩ := hs
    rw [Bool.and_eq_true, Bool.and_eq_true, Bool.and_eq_true, beq_iff_eq, Bool.not_eq_true'] at hs
    obtain ⟨⟨⟨h1, h2⟩, h5⟩, h3⟩ := hs
    have hN := H.next h (List.mem_range.1 hv) h1 h2
    have e : v :: l.reverse = (l ++ [v]).reverse := by simp
    rw [e] at h3
    have hu' : OrdU Q (l ++ [v]) := fun i j k hij hjk hk e => by
      rw [List.length_append, List.length_singleton] at hk
      rw [nbU_lt (by omega : i < l.length)] at e
      rw [nbU_lt (by omega : j < l.length)]
      rcases Nat.lt_or_ge k l.length with hlt | hge
      · rw [nbU_lt hlt] at e ⊢
        exact hu i j k hij hjk hlt e
      · obtain rfl : k = l.length := by omega
        rw [nbU_at, h.edge_comm] at e
        rw [nbU_at]
        have := dropWhile_pre h5 (l.length - 1 - j) (l.length - 1 - i) (by omega) (by rw [List.length_reverse]; omega)
        rw [nbU_rev (by omega), nbU_rev (by omega)] at this
        have e1 : l.length - 1 - (l.length - 1 - i) = i := by omega
        have e2 : l.length - 1 - (l.length - 1 - j) = j := by omega
        rw [e1, e2] at this
        exact this e
    obtain ⟨q, hq, h4⟩ := umS_ord h f _ _ _ hN hu' h3
    exact ⟨q, by rw [hq, List.length_append, List.length_singleton]; omega, h4⟩
theorem carry_verts {n : Nat} {o q : List Nat} (ho : natVerts n o) (hl : o.length = n) (hq : natVerts n q) : natVerts n (q.map (nb o)) := by
  refine ⟨fun v hv => ?_, ?_⟩
  · obtain ⟨u, hu, rfl⟩ := List.mem_map.1 hv
    exact ho.at_ (by have := hq.1 u hu; omega)
  · rw [List.Nodup, List.pairwise_map]
    exact hq.2.imp_of_mem fun {a b} ha hb hne e => hne (ho.inj (by have := hq.1 a ha; omega) (by have := hq.1 b hb; omega) e)
theorem carry_ordI {n : Nat} {Q o q : List Nat} (h : GOk n Q) (hq : natVerts n q) (hi : OrdI (posG Q o n) q) : OrdI Q (q.map (nb o)) := fun i j k hij hjk hk e => by
  rw [List.length_map] at hk
  rw [nbU_map (by omega), nbU_map (by omega)] at e ⊢
  have := hi i j k hij hjk hk
  rw [posG_edge h (hq.at_ (by omega)) (hq.at_ (by omega)), posG_edge h (hq.at_ (by omega)) (hq.at_ (by omega))] at this
  exact this e
theorem carry_ordU {n : Nat} {Q o q : List Nat} (h : GOk n Q) (hq : natVerts n q) (hi : OrdU (posG Q o n) q) : OrdU Q (q.map (nb o)) := fun i j k hij hjk hk e => by
  rw [List.length_map] at hk
  rw [nbU_map (by omega), nbU_map (by omega)] at e ⊢
  have := hi i j k hij hjk hk
  rw [posG_edge h (hq.at_ (by omega)) (hq.at_ (by omega)), posG_edge h (hq.at_ (by omega)) (hq.at_ (by omega))] at this
  exact this e
theorem ordI_IV {n : Nat} {Q q : List Nat} (h : GOk n Q) (hq : natVerts n q) (hl : q.length = n) (hi : OrdI Q q) : ∃ a b, IV n Q a b := by
  obtain ⟨J, hJ⟩ : ∃ J : Nat → Nat → Bool, J = fun i k => edge Q (nb q i) (nb q k) := ⟨_, rfl⟩
  have key : ∀ u v, u < n → v < n → place q u < place q v → (edge Q u v = true ↔ place q v ≤ farU J (place q u) n) := fun u v hu hv hlt => by
    have mu := hq.all hl hu
    have mv := hq.all hl hv
    have lv := place_lt mv
    have e : edge Q u v = J (place q u) (place q v) := by rw [hJ]; simp only [place_at mu, place_at mv]
    rw [e]
    constructor
    · exact le_farK (by omega) hlt
    · intro hle
      have h1 := farK_adj (J := J) (i := place q u) (k := n) (by omega)
      rcases Nat.lt_or_ge (place q v) (farU J (place q u) n) with h2 | h2
      · have h3 := farK_lt (J := J) (i := place q u) (n := n) (by omega) n (Nat.le_refl _)
        rw [hJ] at h1 ⊢
        exact hi _ _ _ hlt (by rw [hJ] at h2; exact h2) (by rw [hJ] at h3; omega) h1
      · have h4 : place q v = farU J (place q u) n := by omega
        rw [h4]; exact h1
  refine ⟨fun v => (place q v : Nat), fun v => (farU J (place q v) n : Nat), fun v _ => ?_, fun u v hu hv hne => ?_⟩
  · have := farK_ge J (place q v) n
    omega
  · have g1 := farK_ge J (place q u) n
    have g2 := farK_ge J (place q v) n
    have mu := hq.all hl hu
    have mv := hq.all hl hv
    have hp : place q u ≠ place q v := fun e => hne (by rw [← place_at mu, ← place_at mv, e])
    rcases Nat.lt_or_ge (place q u) (place q v) with h1 | h1
    · rw [key u v hu hv h1]
      omega
    · rw [h.edge_comm, key v u hv hu (by omega)]
      omega
end Go.Proofs.YthncdjcmlpiebaaGreat
