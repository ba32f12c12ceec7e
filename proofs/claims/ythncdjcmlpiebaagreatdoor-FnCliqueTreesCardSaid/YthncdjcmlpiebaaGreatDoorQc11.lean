/- The great law of clique trees, plain, first part: cliques that are joined by what they have most in common make a clique tree. No program in sight. The great law of clique trees, plain, second part: the growth. No program in sight. Interval models, plain: no holes, cliques have points, the maximal cliques in the points' order follow one another. No program in sight. Chapter 8, plain: minimal separators. The great law of clique trees, plain, third part: trees whose bags meet what came before in their parents. No program in sight. -/
import Derived.Test.YthncdjcmlpiebaaGreatDoorQc02
import Derived.Test.YthncdjcmlpiebaaGreatDoorQc09
import Derived.Test.YthncdjcmlpiebaaGreatDoorQc10
namespace Go.Proofs.YthncdjcmlpiebaaGreatDoor
/-- Whoever is preferred has a reason ahead of it. -/
def MPP (Q o : List Nat) : Prop := ∀ a b c, a < b → b < c → c < o.length → edge Q (nb o a) (nb o c) = true → edge Q (nb o a) (nb o b) = false → ∃ d, d < b ∧ edge Q (nb o d) (nb o b) = true ∧ edge Q (nb o d) (nb o c) = false
theorem no_way {n : Nat} {Q o : List Nat} (h : GOk n Q) (ho : natVerts n o) (hlb : MPP Q o) (hno : ∀ r, ¬ HoleP n Q r) :
    ∀ (m len : Nat) (p : Nat → Nat), 2 ≤ len → (∀ i, i ≤ len → p i < o.length) → (∀ i k, i < k → k ≤ len → p i ≠ p k) → (∀ i k, i < k → k ≤ len → edge Q (nb o (p i)) (nb o (p k)) = decide (k = i + 1)) → p 0 < p len → p len = m → (∀ i, 0 < i → i < len → m < p i) → False := by
  intro m
  induction m using Nat.strongRecOn with
  | _ m ih =>
    intro len p h2 hn hinj hind h0 hm hint
    have e1 : edge Q (nb o (p 0)) (nb o (p 1)) = true := by rw [hind 0 1 (by omega) (by omega)]; rfl
    have e2 : edge Q (nb o (p 0)) (nb o (p len)) = false := by rw [hind 0 len (by omega) (Nat.le_refl _)]; exact decide_eq_false (by omega)
    have h1m := hint 1 (by omega) (by omega)
    obtain ⟨d, hd, d1, d2⟩ := hlb (p 0) (p len) (p 1) h0 (by omega) (hn 1 (by omega)) e1 e2
    have hdn : d < o.length := by have := hn len (Nat.le_refl _); omega
    have hne : ∀ i, i ≤ len → d ≠ p i := fun i hi e => by
      rcases Nat.eq_zero_or_pos i with rfl | hi0
      · rw [e, e1] at d2; cases d2
      · rcases Nat.lt_or_ge i len with h' | h'
        · have := hint i hi0 h'; omega
        · obtain rfl : i = len := by omega
          omega
    -- the first place behind 1 that d is joined to
    obtain ⟨j, hj, ⟨hj2, hjd⟩, hjl⟩ := least_of (fun i => 2 ≤ i ∧ edge Q (nb o d) (nb o (p i)) = true) len ⟨h2, d1⟩
    have hoff : ∀ i, 0 < i → i < j → edge Q (nb o d) (nb o (p i)) = false := fun i hi0 hij => by
      rcases Nat.lt_or_ge i 2 with h' | h'
      · obtain rfl : i = 1 := by omega
        exact d2
      · rw [← Bool.not_eq_true]
        exact fun e => hjl i hij ⟨h', e⟩
    rcases Bool.eq_false_or_eq_true (edge Q (nb o d) (nb o (p 0))) with hd0 | hd0
    · -- a hole
      obtain ⟨f, hf⟩ : ∃ f : Nat → Nat, f = fun i => nb o (if i = 0 then d else p (i - 1)) := ⟨_, rfl⟩
      have hff : ∀ i, f (i + 1) = nb o (p i) := fun i => by rw [hf]; rfl
      have hf0 : f 0 = nb o d := by rw [hf]; rfl
      refine hno ((List.range (j + 2)).map f) ⟨⟨fun v hv => ?_, nodup_map fun i k hik hk => ?_⟩, by simp; omega, ?_⟩
      · obtain ⟨i, hi, rfl⟩ := List.mem_map.1 hv
        rw [List.mem_range] at hi
        rcases i with _ | i
        · rw [hf0]; exact ho.at_ hdn
        · rw [hff]; exact ho.at_ (hn i (by omega))
      · obtain ⟨k, rfl⟩ : ∃ k', k = k' + 1 := ⟨k - 1, by omega⟩
        rw [hff]
        rcases i with _ | i
        · rw [hf0]
          exact fun e => hne k (by omega) (ho.inj hdn (hn k (by omega)) e)
        · rw [hff]
          exact fun e => hinj i k (by omega) (by omega) (ho.inj (hn i (by omega)) (hn k (by omega)) e)
      · rw [joinedP_iff]
        intro k hk i hik
        rw [List.length_map, List.length_range] at hk ⊢
        rw [nb_map (by omega), nb_map hk]
        obtain ⟨k, rfl⟩ : ∃ k', k = k' + 1 := ⟨k - 1, by omega⟩
        rw [hff]
        unfold jHole
        rcases i with _ | i
        · rw [hf0]
          rcases Nat.eq_zero_or_pos k with rfl | hk0
          · rw [hd0]; simp
          · rcases Nat.lt_or_ge k j with h' | h'
            · rw [hoff k hk0 h']
              simp; omega
            · obtain rfl : k = j := by omega
              rw [hjd]; simp
        · rw [hff, hind i k (by omega) (by omega)]
          simp
    · have hp0 := hne 0 (by omega)
      rcases Nat.lt_or_ge d (p 0) with hlt | hge
      · -- a way again, from d on
        obtain ⟨q, hq⟩ : ∃ q : Nat → Nat, q = fun i => if i = 0 then d else p (j + 1 - i) := ⟨_, rfl⟩
        have hq0 : q 0 = d := by rw [hq]; rfl
        have hqs : ∀ i, 0 < i → q i = p (j + 1 - i) := fun i hi => by rw [hq]; exact if_neg (by omega)
        refine ih (p 0) (by omega) (j + 1) q (by omega) (fun i hi => ?_) (fun i k hik hk => ?_) (fun i k hik hk => ?_) ?_ ?_ (fun i hi0 hi => ?_)
        · rcases Nat.eq_zero_or_pos i with rfl | hi0
          · rw [hq0]; exact hdn
          · rw [hqs i hi0]; exact hn _ (by omega)
        · rw [hqs k (by omega)]
          rcases Nat.eq_zero_or_pos i with rfl | hi0
          · rw [hq0]; exact hne _ (by omega)
          · rw [hqs i hi0]
            exact fun e => hinj (j + 1 - k) (j + 1 - i) (by omega) (by omega) e.symm
        · rw [hqs k (by omega)]
          rcases Nat.eq_zero_or_pos i with rfl | hi0
          · rw [hq0]
            rcases Nat.lt_or_ge 1 k with h' | h'
            · have hkj : edge Q (nb o d) (nb o (p (j + 1 - k))) = false := by
                rcases Nat.lt_or_ge k (j + 1) with h3 | h3
                · exact hoff _ (by omega) (by omega)
                · have : j + 1 - k = 0 := by omega
                  rw [this]; exact hd0
              rw [hkj]; symm; exact decide_eq_false (by omega)
            · obtain rfl : k = 1 := by omega
              rw [show j + 1 - 1 = j by omega, hjd]; rfl
          · rw [hqs i hi0, h.edge_comm, hind (j + 1 - k) (j + 1 - i) (by omega) (by omega)]
            exact decide_eq_decide.2 (by omega)
        · rw [hq0, hqs (j + 1) (by omega)]
          rw [show j + 1 - (j + 1) = 0 by omega]; exact hlt
        · rw [hqs (j + 1) (by omega), show j + 1 - (j + 1) = 0 by omega]
        · rw [hqs i hi0]
          have hik := hint (j + 1 - i) (by omega)
          rcases Nat.lt_or_ge (j + 1 - i) len with h' | h'
          · have := hik h'; omega
          · have : j + 1 - i = len := by omega
            rw [this]; exact h0
      · -- a way again, towards d
        obtain ⟨q, hq⟩ : ∃ q : Nat → Nat, q = fun i => if i = j + 1 then d else p i := ⟨_, rfl⟩
        have hqe : q (j + 1) = d := by rw [hq]; exact if_pos rfl
        have hqs : ∀ i, i ≤ j → q i = p i := fun i hi => by rw [hq]; exact if_neg (by omega)
        refine ih d (by omega) (j + 1) q (by omega) (fun i hi => ?_) (fun i k hik hk => ?_) (fun i k hik hk => ?_) ?_ hqe (fun i hi0 hi => ?_)
        · rcases Nat.lt_or_ge j i with h' | h'
          · obtain rfl : i = j + 1 := by omega
            rw [hqe]; exact hdn
          · rw [hqs i h']; exact hn _ (by omega)
        · rw [hqs i (by omega)]
          rcases Nat.lt_or_ge j k with h' | h'
          · obtain rfl : k = j + 1 := by omega
            rw [hqe]; exact (hne _ (by omega)).symm
          · rw [hqs k h']; exact hinj i k hik (by omega)
        · rw [hqs i (by omega)]
          rcases Nat.lt_or_ge j k with h' | h'
          · obtain rfl : k = j + 1 := by omega
            rw [hqe, h.edge_comm]
            rcases Nat.eq_zero_or_pos i with rfl | hi0
            · rw [hd0]; symm; exact decide_eq_false (by omega)
            · rcases Nat.lt_or_ge i j with h3 | h3
              · rw [hoff i hi0 h3]; symm; exact decide_eq_false (by omega)
              · obtain rfl : i = j := by omega
                rw [hjd]; symm; exact decide_eq_true rfl
          · rw [hqs k h']; exact hind i k hik (by omega)
        · rw [hqe, hqs 0 (by omega)]; omega
        · rw [hqs i (by omega)]
          rcases Nat.lt_or_ge i len with h' | h'
          · have := hint i hi0 h'; omega
          · have : i = len := by omega
            rw [this]; omega
/-- Two earlier neighbours of a vertex are neighbours. -/
theorem mp_clique {n : Nat} {Q o : List Nat} (h : GOk n Q) (ho : natVerts n o) (hlb : MPP Q o) (hno : ∀ r, ¬ HoleP n Q r) {x y v : Nat} (hxy : x < y) (hyv : y < v) (hv : v < o.length) (e1 : edge Q (nb o x) (nb o v) = true) (e2 : edge Q (nb o y) (nb o v) = true) : edge Q (nb o x) (nb o y) = true := by
  rcases Bool.eq_false_or_eq_true (edge Q (nb o x) (nb o y)) with e | e
  · exact e
  · exfalso
    obtain ⟨p, hp⟩ : ∃ p : Nat → Nat, p = fun i => if i = 0 then x else if i = 1 then v else y := ⟨_, rfl⟩
    have p0 : p 0 = x := by rw [hp]; rfl
    have p1 : p 1 = v := by rw [hp]; rfl
    have p2 : p 2 = y := by rw [hp]; rfl
    refine no_way h ho hlb hno y 2 p (Nat.le_refl _) (fun i hi => ?_) (fun i k hik hk => ?_) (fun i k hik hk => ?_) (by rw [p0, p2]; exact hxy) p2 (fun i hi0 hi => ?_)
    · match i, hi with
      | 0, _ => rw [p0]; omega
      | 1, _ => rw [p1]; omega
      | 2, _ => rw [p2]; omega
    · have : (i = 0 ∧ k = 1) ∨ (i = 0 ∧ k = 2) ∨ (i = 1 ∧ k = 2) := by omega
      rcases this with ⟨rfl, rfl⟩ | ⟨rfl, rfl⟩ | ⟨rfl, rfl⟩
      · rw [p0, p1]; omega
      · rw [p0, p2]; omega
      · rw [p1, p2]; omega
    · have : (i = 0 ∧ k = 1) ∨ (i = 0 ∧ k = 2) ∨ (i = 1 ∧ k = 2) := by omega
      rcases this with ⟨rfl, rfl⟩ | ⟨rfl, rfl⟩ | ⟨rfl, rfl⟩
      · rw [p0, p1, e1]; rfl
      · rw [p0, p2, e]; rfl
      · rw [p1, p2, h.edge_comm, e2]; rfl
    · obtain rfl : i = 1 := by omega
      rw [p1]; exact hyv
theorem listOf_nodup' (s : Nat) : (listOf s).Nodup := (List.nodup_range).sublist List.filter_sublist
theorem card_lt_sub {a b : Nat} (h : ∀ i, a.testBit i = true → b.testBit i = true) {x : Nat} (hx : x < 7) (hb : b.testBit x = true) (ha : a.testBit x = false) : card a < card b := by
  have h1 := nodup_sub (l := x :: listOf a) (m := listOf b) (List.nodup_cons.2 ⟨fun hm => (by rw [(mem_listOf.1 hm).2] at ha; cases ha), listOf_nodup' a⟩) (fun y hy => by
    rcases List.mem_cons.1 hy with rfl | hy
    · exact mem_listOf.2 ⟨hx, hb⟩
    · exact mem_listOf.2 ⟨(mem_listOf.1 hy).1, h y (mem_listOf.1 hy).2⟩)
  rw [List.length_cons] at h1
  exact h1
theorem card_mono' {s t : Nat} (h : ∀ i, s.testBit i = true → t.testBit i = true) : card s ≤ card t :=
  nodup_sub (listOf_nodup' s) fun x hx => mem_listOf.2 ⟨(mem_listOf.1 hx).1, h x (mem_listOf.1 hx).2⟩
/-- A set in another one with as many members is the other one. -/
theorem sub_same {a b : Nat} (h : ∀ i, a.testBit i = true → b.testBit i = true) (hb : b < 128) (hc : card b ≤ card a) : a = b := by
  apply Nat.eq_of_testBit_eq
  intro i
  rcases Bool.eq_false_or_eq_true (b.testBit i) with e | e
  · rw [e]
    rcases Bool.eq_false_or_eq_true (a.testBit i) with ea | ea
    · exact ea
    · have := card_lt_sub h (bit_lt (k := 7) hb e) e ea
      omega
  · rw [e]
    rcases Bool.eq_false_or_eq_true (a.testBit i) with ea | ea
    · rw [h i ea] at e; cases e
    · exact ea
/-- A clique lies in a maximal one. -/
theorem clq_ext {n : Nat} {Q : List Nat} (h : GOk n Q) {s : Nat} (hs : s < 2 ^ n) (hc : clq Q s = true) : ∃ M, M ∈ maxCliques Q n ∧ ∀ i, s.testBit i = true → M.testBit i = true := by
  obtain ⟨P, hP⟩ : ∃ P : Nat → Bool, P = fun t => clq Q t && (t &&& s == s) := ⟨_, rfl⟩
  have hPi : ∀ t, P t = true ↔ clq Q t = true ∧ ∀ i, s.testBit i = true → t.testBit i = true := fun t => by
    rw [hP]
    show (clq Q t && (t &&& s == s)) = true ↔ _
    rw [Bool.and_eq_true, beq_iff_eq]
    refine and_congr_right fun _ => ⟨fun e i hi => ?_, fun e => Nat.eq_of_testBit_eq fun i => ?_⟩
    · have := congrArg (fun x => x.testBit i) e
      simp only [Nat.testBit_and, hi, Bool.and_true] at this
      exact this
    · rw [Nat.testBit_and]
      rcases Bool.eq_false_or_eq_true (s.testBit i) with e' | e'
      · rw [e', e i e']; rfl
      · rw [e', Bool.and_false]
  have hpos := h.pos
  have h2n := Nat.two_pow_pos n
  have h1n : 1 ≤ 2 ^ n - 1 := by
    have : 2 ^ 1 ≤ 2 ^ n := Nat.pow_le_pow_right (by omega) hpos
    omega
  have hex : ∃ t, 1 ≤ t ∧ t ≤ 2 ^ n - 1 ∧ P t = true := by
    rcases Nat.eq_zero_or_pos s with rfl | h0
    · exact ⟨1, Nat.le_refl _, h1n, (hPi 1).2 ⟨clq_single h, fun i hi => by rw [Nat.zero_testBit] at hi; cases hi⟩⟩
    · exact ⟨s, h0, by omega, (hPi s).2 ⟨hc, fun _ hi => hi⟩⟩
  obtain ⟨M, m1, m2, m3, m4⟩ := top_exists _ hex
  obtain ⟨m5, m6⟩ := (hPi M).1 m3
  have hM : M < 2 ^ n := by omega
  refine ⟨M, maxK_mem m1 m2 ?_, m6⟩
  rw [maxi_yes m5]
  have key : ∀ v, v ≤ n → standsK Q M v = true := by
    intro v
    induction v with
    | zero => intro _; rfl
    | succ v ih =>
      intro hv
      rw [standsK, ih (by omega), Bool.true_and, stands]
      rcases Bool.eq_false_or_eq_true (M.testBit v) with e | e
      · rw [e]; rfl
      · rw [e, Bool.false_or, bne_iff_ne]
        intro hz
        have hsub : ∀ i, M.testBit i = true → edge Q v i = true := fun i hi => by
          have := congrArg (fun x => x.testBit i) hz
          simp only [testBit_dif, Nat.zero_testBit, hi, Bool.true_and] at this
          unfold edge
          simpa using this
        have hlt : M < M ||| 2 ^ v := by
          have hd : M &&& 2 ^ v = 0 := by
            apply Nat.eq_of_testBit_eq
            intro i
            rw [Nat.testBit_and, Nat.testBit_two_pow, Nat.zero_testBit]
            by_cases hi : v = i
            · subst hi; rw [e]; rfl
            · simp [hi]
          have := add_of_and hd
          have := Nat.two_pow_pos v
          omega
        have hlt2 : M ||| 2 ^ v < 2 ^ n := Nat.or_lt_two_pow hM (Nat.pow_lt_pow_right (by omega) (by omega))
        have hbit : ∀ i, (M ||| 2 ^ v).testBit i = true ↔ M.testBit i = true ∨ i = v := fun i => by
          rw [Nat.testBit_or, Nat.testBit_two_pow, Bool.or_eq_true, decide_eq_true_eq]
          exact or_congr_right eq_comm
        have hno := m4 _ hlt (by omega)
        have : P (M ||| 2 ^ v) = true := by
          rw [hPi]
          refine ⟨?_, fun i hi => (hbit i).2 (.inl (m6 i hi))⟩
          rw [clq_pairs h]
          intro a ha hsa b hsb hne
          rw [hbit] at hsa hsb
          rcases hsa with hsa | rfl
          · rcases hsb with hsb | rfl
            · exact (clq_pairs h).1 m5 a ha hsa b hsb hne
            · rw [h.edge_comm]; exact hsub a hsa
          · rcases hsb with hsb | rfl
            · exact hsub b hsb
            · exact absurd rfl hne
        rw [hno] at this
        cases this
  exact key n (Nat.le_refl _)
def erl (Q o : List Nat) (b z : Nat) : Nat := nb Q z &&& setN (o.take b)
theorem erl_bit {Q o : List Nat} {b z i : Nat} : (erl Q o b z).testBit i = true ↔ edge Q z i = true ∧ i ∈ o.take b := by
  rw [erl, Nat.testBit_and, Bool.and_eq_true, testBit_setN, decide_eq_true_eq]
  exact Iff.rfl
def MC (n : Nat) (Q o : List Nat) : Prop := ∀ b, b < o.length → ∀ z, z < n → z ∉ o.take b → card (erl Q o b z) ≤ card (erl Q o b (nb o b))
theorem nb_snoc_lt {o : List Nat} {y j : Nat} (h : j < o.length) : nb (o ++ [y]) j = nb o j := by simp [nb, List.getD, List.getElem?_append_left h]
theorem nb_snoc_eq {o : List Nat} {y : Nat} : nb (o ++ [y]) o.length = y := by simp [nb, List.getD]
theorem mem_take_nb {o : List Nat} {b d : Nat} (hd : d < b) (hb : b ≤ o.length) : nb o d ∈ o.take b := take_mem.2 ⟨d, hd, by omega, rfl⟩
theorem natVerts.not_take {n : Nat} {o : List Nat} (ho : natVerts n o) {b c : Nat} (hb : b ≤ c) (hc : c < o.length) : nb o c ∉ o.take b := fun hm => by
  obtain ⟨i, hi, hi2, e⟩ := take_mem.1 hm
  have := ho.inj hi2 hc e
  omega
theorem MC.mpp {n : Nat} {Q o : List Nat} (h : GOk n Q) (ho : natVerts n o) (hm : MC n Q o) {y : Nat} (hy : y < n) (hyo : y ∉ o) : MPP Q (o ++ [y]) := by
  intro a b c hab hbc hc e1 e2
  rw [List.length_append, List.length_singleton] at hc
  have hbl : b < o.length := by omega
  rw [nb_snoc_lt (show a < o.length by omega)] at e1 e2
  rw [nb_snoc_lt hbl] at e2 ⊢
  obtain ⟨z, hz⟩ : ∃ z, z = nb (o ++ [y]) c := ⟨_, rfl⟩
  rw [← hz] at e1 ⊢
  have hzn : z < n ∧ z ∉ o.take b := by
    rcases Nat.lt_or_ge c o.length with h' | h'
    · rw [nb_snoc_lt h'] at hz
      rw [hz]; exact ⟨ho.at_ h', ho.not_take (by omega) h'⟩
    · obtain rfl : c = o.length := by omega
      rw [nb_snoc_eq] at hz
      rw [hz]; exact ⟨hy, fun k => hyo (List.mem_of_mem_take k)⟩
  have hle := hm b hbl z hzn.1 hzn.2
  refine Classical.byContradiction fun hno => ?_
  have hsub : ∀ i, (erl Q o b (nb o b)).testBit i = true → (erl Q o b z).testBit i = true := fun i hi => by
    rw [erl_bit] at hi ⊢
    refine ⟨?_, hi.2⟩
    obtain ⟨d, hd, hd2, rfl⟩ := take_mem.1 hi.2
    rcases Bool.eq_false_or_eq_true (edge Q z (nb o d)) with e | e
    · exact e
    · refine absurd ⟨d, hd, ?_, ?_⟩ hno
      · rw [nb_snoc_lt hd2, h.edge_comm]; exact hi.1
      · rw [nb_snoc_lt hd2, h.edge_comm]; exact e
  have han := ho.at_ (j := a) (by omega)
  have hle7 := h.le
  have := card_lt_sub hsub (x := nb o a) (by omega) (erl_bit.2 ⟨by rw [h.edge_comm]; exact e1, mem_take_nb hab (by omega)⟩) (by
    rw [← Bool.not_eq_true, erl_bit, h.edge_comm, e2]
    exact fun k => Bool.false_ne_true k.1)
  omega
end Go.Proofs.YthncdjcmlpiebaaGreatDoor
namespace Go.Proofs.YthncdjcmlpiebaaGreatDoor
def BestOk (L bags : List Nat) (seen : Nat → Nat → Prop) (st : Best) : Prop :=
  (∀ i k, seen i k → nb L k ∉ bags → ((comm L bags i k : Nat) : Int) ≤ mostB st) ∧ ∀ s, st = some s → ∃ k, k < L.length ∧ s.1 = nb L k ∧ nb L k ∉ bags ∧ s.2.2 = comm L bags s.2.1 k
theorem BestOk.more {L bags : List Nat} {seen seen' : Nat → Nat → Prop} {st : Best} (h : BestOk L bags seen st) (hs : ∀ i k, seen' i k → seen i k) : BestOk L bags seen' st := ⟨fun i k e => h.1 i k (hs i k e), h.2⟩
theorem pickB_best {L bags : List Nat} {seen : Nat → Nat → Prop} {st : Best} {i k : Nat} (h : BestOk L bags seen st) (hk : k < L.length) : BestOk L bags (fun i' k' => seen i' k' ∨ i' = i ∧ k' = k) (pickB L bags i st k) := by
  by_cases hm : nb L k ∈ bags
  · rw [pickB_in (decide_eq_true hm)]
    refine ⟨fun i' k' hs hn => ?_, h.2⟩
    rcases hs with hs | ⟨rfl, rfl⟩
    · exact h.1 i' k' hs hn
    · exact absurd hm hn
  · by_cases hc : mostB st < (comm L bags i k : Nat)
    · rw [pickB_new (decide_eq_false hm) hc]
      refine ⟨fun i' k' hs hn => ?_, fun s e => ?_⟩
      · show _ ≤ ((comm L bags i k : Nat) : Int)
        rcases hs with hs | ⟨rfl, rfl⟩
        · have := h.1 i' k' hs hn; omega
        · exact Int.le_refl _
      · injection e with e
        subst e
        exact ⟨k, hk, rfl, hm, rfl⟩
    · rw [pickB_few hc]
      refine ⟨fun i' k' hs hn => ?_, h.2⟩
      rcases hs with hs | ⟨rfl, rfl⟩
      · exact h.1 i' k' hs hn
      · omega
theorem rowB_best {L bags : List Nat} {seen : Nat → Nat → Prop} {st : Best} {i : Nat} (h : BestOk L bags seen st) : ∀ k, k ≤ L.length → BestOk L bags (fun i' k' => seen i' k' ∨ i' = i ∧ k' < k) (rowB L bags i st k)
  | 0, _ => h.more fun i' k' hs => by
    rcases hs with hs | ⟨_, hs⟩
    · exact hs
    · omega
  | k + 1, hk => (pickB_best (rowB_best h k (by omega)) (by omega)).more fun i' k' hs => by
    rcases hs with hs | ⟨h1, h2⟩
    · exact .inl (.inl hs)
    · rcases Nat.lt_succ_iff_lt_or_eq.1 h2 with h3 | h3
      · exact .inl (.inr ⟨h1, h3⟩)
      · exact .inr ⟨h1, h3⟩
theorem allB_best {L bags : List Nat} : ∀ m, BestOk L bags (fun i' k' => i' < m ∧ k' < L.length) (allB L bags m)
  | 0 => ⟨fun _ _ h => absurd h.1 (by omega), fun s e => by cases e⟩
  | m + 1 => (rowB_best (allB_best m) L.length (Nat.le_refl _)).more fun i' k' hs => by
    rcases Nat.lt_succ_iff_lt_or_eq.1 hs.1 with h3 | h3
    · exact .inl ⟨h3, hs.2⟩
    · exact .inr ⟨h3, hs.2⟩
theorem mem_nb {L : List Nat} {x : Nat} (h : x ∈ L) : ∃ k, k < L.length ∧ nb L k = x := by
  obtain ⟨k, hk, e⟩ := List.mem_iff_getElem.1 h
  exact ⟨k, hk, by rw [← e]; simp [nb, List.getD, List.getElem?_eq_getElem hk]⟩
/-- The next clique: fresh, with most in common with a bag. -/
theorem allB_spec {L bags : List Nat} {s : Nat × Nat × Nat} (h : allB L bags bags.length = some s) : s.1 ∈ L ∧ s.1 ∉ bags ∧ s.2.1 < bags.length ∧ ∀ M ∈ L, M ∉ bags → ∀ K ∈ bags, card (M &&& K) ≤ card (s.1 &&& nb bags s.2.1) := by
  obtain ⟨h1, h2⟩ := allB_best (L := L) (bags := bags) bags.length
  obtain ⟨k, hk, e1, e2, e3⟩ := h2 s h
  have hm := allB_mem _ (Nat.le_refl _) s h
  refine ⟨hm.1, by rw [e1]; exact e2, hm.2, fun M hM hMb K hK => ?_⟩
  obtain ⟨k', hk', rfl⟩ := mem_nb hM
  obtain ⟨i', hi', rfl⟩ := mem_nb hK
  have := h1 i' k' ⟨hi', hk'⟩ hMb
  rw [h] at this
  have e4 : mostB (some s) = (s.2.2 : Nat) := rfl
  rw [e4, e3] at this
  rw [e1]
  have : comm L bags i' k' ≤ comm L bags s.2.1 k := by omega
  exact this
/-- Each bag has of what came before it only what its parent has. -/
def RIP (b : List Nat) (P : List Int) : Prop := ∀ i, 0 < i → i < b.length → (0 ≤ P.getD i 0 ∧ P.getD i 0 < (i : Int)) ∧ ∀ j, j < i → ∀ v, (nb b i).testBit v = true → (nb b j).testBit v = true → (nb b (P.getD i 0).toNat).testBit v = true
structure Grow (n : Nat) (Q L b : List Nat) (P : List Int) (o : List Nat) : Prop where
  sub : ∀ K ∈ b, K ∈ L
  vis : ∀ v, v ∈ o ↔ ∃ K ∈ b, K.testBit v = true
  ord : natVerts n o
  mc : MC n Q o
  cov : ∀ s, s < 2 ^ n → clq Q s = true → (∀ v, s.testBit v = true → v ∈ o) → ∃ K ∈ b, ∀ v, s.testBit v = true → K.testBit v = true
  rip : RIP b P
  nod : b.Nodup
  pl : P.length = b.length
  p0 : P.getD 0 0 = -1
section
variable {n : Nat} {Q b : List Nat} {P : List Int} {o : List Nat}
theorem maxC_lt {s : Nat} (hs : s ∈ maxCliques Q n) : s < 2 ^ n ∧ maxi Q n s = true ∧ clq Q s = true := by
  obtain ⟨_, _, h3⟩ := mem_maxK hs
  have h4 := h3
  rw [maxi, Bool.and_eq_true] at h4
  exact ⟨maxCliques_lt hs, h3, h4.1⟩
theorem erl_full {y : Nat} : erl Q o o.length y = nb Q y &&& setN o := by rw [erl, List.take_length]
theorem ear_bit {y i : Nat} : (nb Q y &&& setN o).testBit i = true ↔ edge Q y i = true ∧ i ∈ o := by
  rw [← erl_full, erl_bit, List.take_length]
theorem ear_lt (h : GOk n Q) (y : Nat) : nb Q y &&& setN o < 2 ^ n := Nat.lt_of_le_of_lt Nat.and_le_left (h.lt y)
theorem and_bits {a b i : Nat} (h : (a &&& b).testBit i = true) : a.testBit i = true ∧ b.testBit i = true := by
  rw [Nat.testBit_and, Bool.and_eq_true] at h
  exact h
/-- The earlier neighbours of a fresh vertex are a clique. -/
theorem Grow.ear_clq {L : List Nat} (G : Grow n Q L b P o) (h : GOk n Q) (hno : ∀ r, ¬ HoleP n Q r) {y : Nat} (hy : y < n) (hyo : y ∉ o) : clq Q (nb Q y &&& setN o) = true := by
  have hm := G.mc.mpp h G.ord hy hyo
  have ho' : natVerts n (o ++ [y]) := ⟨fun v hv => by
    rcases List.mem_append.1 hv with hv | hv
    · exact G.ord.1 v hv
    · obtain rfl : v = y := by simpa using hv
      exact hy, by
    rw [List.nodup_append]
    exact ⟨G.ord.2, by simp, fun a ha c hc e => by
      obtain rfl : c = y := by simpa using hc
      subst e
      exact hyo ha⟩⟩
  rw [clq_pairs h]
  intro a _ hsa c hsc hne
  rw [ear_bit] at hsa hsc
  obtain ⟨e1, ma⟩ := hsa
  obtain ⟨e2, mc⟩ := hsc
  obtain ⟨i, hi, rfl⟩ := pos_of ma
  obtain ⟨j, hj, rfl⟩ := pos_of mc
  have key : ∀ i j, i < j → j < o.length → edge Q y (nb o i) = true → edge Q y (nb o j) = true → edge Q (nb o i) (nb o j) = true := fun i j hij hj e1 e2 => by
    have := mp_clique h ho' hm hno hij (v := o.length) (by omega) (by simp) (by rw [nb_snoc_lt (by omega), nb_snoc_eq, h.edge_comm]; exact e1) (by rw [nb_snoc_lt hj, nb_snoc_eq, h.edge_comm]; exact e2)
    rwa [nb_snoc_lt (by omega), nb_snoc_lt hj] at this
  rcases Nat.lt_trichotomy i j with h' | h' | h'
  · exact key i j h' hj e1 e2
  · subst h'; exact absurd rfl hne
  · rw [h.edge_comm]; exact key j i h' hi e2 e1
/-- They are few: no more than the greatest that a fresh clique has in common with a bag. -/
theorem Grow.ear_few (G : Grow n Q (maxCliques Q n) b P o) (h : GOk n Q) (hno : ∀ r, ¬ HoleP n Q r) {w : Nat} (hw : ∀ M ∈ maxCliques Q n, M ∉ b → ∀ K ∈ b, card (M &&& K) ≤ w) {y : Nat} (hy : y < n) (hyo : y ∉ o) : card (nb Q y &&& setN o) ≤ w := by
  have hc := G.ear_clq h hno hy hyo
  obtain ⟨K', hK', hs'⟩ := G.cov _ (ear_lt h y) hc fun v hv => (ear_bit.1 hv).2
  have h2 : clq Q (2 ^ y ||| (nb Q y &&& setN o)) = true := by
    rw [clq_pairs h]
    have hb : ∀ i, (2 ^ y ||| (nb Q y &&& setN o)).testBit i = true ↔ i = y ∨ (nb Q y &&& setN o).testBit i = true := fun i => by
      rw [Nat.testBit_or, Nat.testBit_two_pow, Bool.or_eq_true, decide_eq_true_eq]
      exact or_congr_left eq_comm
    intro a ha hsa c hsc hne
    rw [hb] at hsa hsc
    rcases hsa with rfl | hsa
    · rcases hsc with rfl | hsc
      · exact absurd rfl hne
      · exact (ear_bit.1 hsc).1
    · rcases hsc with rfl | hsc
      · rw [h.edge_comm]; exact (ear_bit.1 hsa).1
      · exact (clq_pairs h).1 hc a ha hsa c hsc hne
  obtain ⟨M, hM, hsM⟩ := clq_ext h (Nat.or_lt_two_pow (Nat.pow_lt_pow_right (by omega) hy) (ear_lt h y)) h2
  have hyM : M.testBit y = true := hsM y (by rw [Nat.testBit_or, Nat.testBit_two_pow]; simp)
  have hMb : M ∉ b := fun hm => hyo ((G.vis y).2 ⟨M, hm, hyM⟩)
  refine Nat.le_trans (card_mono' fun i hi => ?_) (hw M hM hMb K' hK')
  rw [Nat.testBit_and, hs' i hi, hsM i (by rw [Nat.testBit_or, hi, Bool.or_true])]
  rfl
/-- One clique more. -/
theorem Grow.step (G : Grow n Q (maxCliques Q n) b P o) (h : GOk n Q) (hno : ∀ r, ¬ HoleP n Q r) {s : Nat × Nat × Nat} (hs : allB (maxCliques Q n) b b.length = some s) : ∃ o', Grow n Q (maxCliques Q n) (b ++ [s.1]) (P ++ [(s.2.1 : Int)]) o' := by
  obtain ⟨K, i, w0⟩ := s
  obtain ⟨hK, hKb, hi, hmax⟩ := allB_spec hs
  simp only at hK hKb hi hmax ⊢
  have h7 := h.le
  obtain ⟨hKn, hKm, hKc⟩ := maxC_lt hK
  obtain ⟨C, hC⟩ : ∃ C, C = nb b i := ⟨_, rfl⟩
  rw [← hC] at hmax
  have hCb : C ∈ b := by rw [hC]; exact nb_mem hi
  obtain ⟨hCn, _, hCc⟩ := maxC_lt (G.sub C hCb)
  have hfew := fun y hy hyo => G.ear_few h hno hmax (y := y) hy hyo
  have hbit : ∀ i, (K &&& setN o).testBit i = true ↔ K.testBit i = true ∧ i ∈ o := fun i => by rw [Nat.testBit_and, Bool.and_eq_true, testBit_setN, decide_eq_true_eq]
  -- what the clique has in common with what has been seen lies in its parent
  have hSc : clq Q (K &&& setN o) = true := clq_sub h hKc fun i hi => ((hbit i).1 hi).1
  have hSn : K &&& setN o < 2 ^ n := Nat.lt_of_le_of_lt Nat.and_le_left hKn
  obtain ⟨K2, hK2, hs2⟩ := G.cov _ hSn hSc fun v hv => ((hbit v).1 hv).2
  have hCo : ∀ v, C.testBit v = true → v ∈ o := fun v hv => (G.vis v).2 ⟨C, hCb, hv⟩
  have hKC : K &&& C = K &&& setN o := by
    refine sub_same (fun i hi => (hbit i).2 ⟨(and_bits hi).1, hCo i (and_bits hi).2⟩) (Nat.lt_of_lt_of_le hSn (Nat.pow_le_pow_right (n := 2) (by omega) h7)) ?_
    refine Nat.le_trans (card_mono' fun i hi => ?_) (hmax K hK hKb K2 hK2)
    rw [Nat.testBit_and, ((hbit i).1 hi).1, hs2 i hi]; rfl
  rw [hKC] at hmax hfew
  have hSb : ∀ v, (K &&& setN o).testBit v = true → C.testBit v = true := fun v hv => by rw [← hKC] at hv; exact (and_bits hv).2
  -- the new vertices
  obtain ⟨D, hD⟩ : ∃ D, D = dif K (setN o) := ⟨_, rfl⟩
  have hDb : ∀ v, D.testBit v = true ↔ K.testBit v = true ∧ v ∉ o := fun v => by rw [hD, testBit_dif, testBit_setN, Bool.and_eq_true, Bool.not_eq_true', decide_eq_false_iff_not]
  have hDm : ∀ v, v ∈ listOf D ↔ K.testBit v = true ∧ v ∉ o := fun v => by
    rw [mem_listOf, hDb]
    exact ⟨fun e => e.2, fun e => ⟨by have := bit_lt hKn e.1; omega, e⟩⟩
  have hDn : ∀ v ∈ listOf D, v < n := fun v hv => bit_lt hKn ((hDm v).1 hv).1
  have ho' : natVerts n (o ++ listOf D) := ⟨fun v hv => by
    rcases List.mem_append.1 hv with hv | hv
    · exact G.ord.1 v hv
    · exact hDn v hv, by
    rw [List.nodup_append]
    exact ⟨G.ord.2, listOf_nodup' D, fun a ha c hc e => by
      subst e
      exact ((hDm a).1 hc).2 ha⟩⟩
  -- the earlier neighbours of a new vertex
  have hear : ∀ z, K.testBit z = true → z ∉ o → nb Q z &&& setN o = K &&& setN o := fun z hz hzo => by
    have hzn := bit_lt hKn hz
    symm
    refine sub_same (fun i hi => ear_bit.2 ⟨?_, ((hbit i).1 hi).2⟩) (Nat.lt_of_lt_of_le (ear_lt h z) (Nat.pow_le_pow_right (n := 2) (by omega) h7)) (hfew z hzn hzo)
    have := (hbit i).1 hi
    exact (clq_pairs h).1 hKc z (by omega) hz i this.1 fun e => hzo (by rw [← e]; exact this.2)
  refine ⟨o ++ listOf D, ⟨fun M hM => ?_, fun v => ?_, ho', ?_, fun s hs hsc hso => ?_, ?_, ?_, by simp [G.pl], ?_⟩⟩
  · rcases List.mem_append.1 hM with hM | hM
    · exact G.sub M hM
    · obtain rfl : M = K := by simpa using hM
      exact hK
  · rw [List.mem_append, G.vis, hDm]
    constructor
    · rintro (⟨M, hM, hv⟩ | ⟨hv, _⟩)
      · exact ⟨M, List.mem_append_left _ hM, hv⟩
      · exact ⟨K, by simp, hv⟩
    · rintro ⟨M, hM, hv⟩
      rcases List.mem_append.1 hM with hM | hM
      · exact .inl ⟨M, hM, hv⟩
      · obtain rfl : M = K := by simpa using hM
        by_cases hvo : v ∈ o
        · exact .inl ((G.vis v).1 hvo)
        · exact .inr ⟨hv, hvo⟩
  · -- the order by the number of earlier neighbours
    intro p hp z hz hzo
    rw [List.length_append] at hp
    rcases Nat.lt_or_ge p o.length with hpo | hpo
    · have e1 : (o ++ listOf D).take p = o.take p := by rw [List.take_append_of_le_length (by omega)]
      have e2 : nb (o ++ listOf D) p = nb o p := by simp [nb, List.getD, List.getElem?_append_left hpo]
      rw [e1] at hzo
      rw [erl, erl, e1, e2]
      exact G.mc p hpo z hz hzo
    · obtain ⟨j, rfl⟩ : ∃ j, p = o.length + j := ⟨p - o.length, by omega⟩
      have hj : j < (listOf D).length := by omega
      obtain ⟨T, hT⟩ : ∃ T, T = (listOf D).take j := ⟨_, rfl⟩
      have hTl : T.length = j := by rw [hT, List.length_take]; omega
      have hTm : ∀ v ∈ T, v ∈ listOf D := fun v hv => by rw [hT] at hv; exact List.mem_of_mem_take hv
      have hTn : T.Nodup := by rw [hT]; exact (listOf_nodup' D).sublist (List.take_sublist _ _)
      have e1 : (o ++ listOf D).take (o.length + j) = o ++ T := by rw [List.take_append, List.take_of_length_le (by omega), hT, show o.length + j - o.length = j by omega]
      have e2 : nb (o ++ listOf D) (o.length + j) = nb (listOf D) j := by simp [nb, List.getD, List.getElem?_append_right]
      rw [e1] at hzo
      have hzo2 : z ∉ o ∧ z ∉ T := ⟨fun k => hzo (List.mem_append_left _ k), fun k => hzo (List.mem_append_right _ k)⟩
      have hbits : ∀ y v, (erl Q (o ++ listOf D) (o.length + j) y).testBit v = true ↔ edge Q y v = true ∧ (v ∈ o ∨ v ∈ T) := fun y v => by rw [erl_bit, e1, List.mem_append]
      obtain ⟨y, hy⟩ : ∃ y, y = nb (listOf D) j := ⟨_, rfl⟩
      have hym : y ∈ listOf D := by rw [hy]; exact nb_mem hj
      have hyT : y ∉ T := fun hm => by
        rw [hT] at hm
        obtain ⟨x, hx, hx2, e⟩ := take_mem.1 hm
        have hv : natVerts n (listOf D) := ⟨hDn, listOf_nodup' D⟩
        rw [hy] at e
        have := hv.inj hx2 hj e
        omega
      rw [e2, ← hy]
      have hup : card (erl Q (o ++ listOf D) (o.length + j) z) ≤ card (nb Q z &&& setN o) + T.length := by
        have := nodup_sub (l := listOf (erl Q (o ++ listOf D) (o.length + j) z)) (m := listOf (nb Q z &&& setN o) ++ T) (listOf_nodup' _) fun v hv => by
          obtain ⟨hv7, hvb⟩ := mem_listOf.1 hv
          rw [hbits] at hvb
          rcases hvb.2 with h' | h'
          · exact List.mem_append_left _ (mem_listOf.2 ⟨hv7, ear_bit.2 ⟨hvb.1, h'⟩⟩)
          · exact List.mem_append_right _ h'
        rw [List.length_append] at this
        exact this
      have hlo : card (K &&& setN o) + T.length ≤ card (erl Q (o ++ listOf D) (o.length + j) y) := by
        have := nodup_sub (l := listOf (K &&& setN o) ++ T) (m := listOf (erl Q (o ++ listOf D) (o.length + j) y)) (by
          rw [List.nodup_append]
          exact ⟨listOf_nodup' _, hTn, fun a ha c hc e => by
            subst e
            have h1 := ((hbit a).1 (mem_listOf.1 ha).2).2
            exact ((hDm a).1 (hTm a hc)).2 h1⟩) fun v hv => by
          have hyK := ((hDm y).1 hym).1
          have adj : K.testBit v = true → v ≠ y → edge Q y v = true := fun e hne => (clq_pairs h).1 hKc y (by have := hDn y hym; omega) hyK v e hne
          rcases List.mem_append.1 hv with hv | hv
          · obtain ⟨hv7, hvb⟩ := mem_listOf.1 hv
            have hvb2 := (hbit v).1 hvb
            exact mem_listOf.2 ⟨hv7, (hbits y v).2 ⟨adj hvb2.1 fun e => ((hDm y).1 hym).2 (by rw [← e]; exact hvb2.2), .inl hvb2.2⟩⟩
          · have hvD := hTm v hv
            exact mem_listOf.2 ⟨by have := hDn v hvD; omega, (hbits y v).2 ⟨adj ((hDm v).1 hvD).1 fun e => hyT (by rw [← e]; exact hv), .inr hv⟩⟩
        rw [List.length_append] at this
        exact this
      have := hfew z hz hzo2.1
      omega
  · -- cliques of what has been seen
    by_cases hz : ∃ z, s.testBit z = true ∧ z ∉ o
    · obtain ⟨z, hzs, hzo⟩ := hz
      have hzD : z ∈ listOf D := (List.mem_append.1 (hso z hzs)).resolve_left hzo
      have hzK := ((hDm z).1 hzD).1
      refine ⟨K, by simp, fun v hv => ?_⟩
      by_cases hvo : v ∈ o
      · have hvz : v ≠ z := fun e => hzo (by rw [← e]; exact hvo)
        have he := (clq_pairs h).1 hsc z (by have := bit_lt hs hzs; omega) hzs v hv hvz
        have := ear_bit.2 (⟨he, hvo⟩ : edge Q z v = true ∧ v ∈ o)
        rw [hear z hzK hzo] at this
        exact ((hbit v).1 this).1
      · exact ((hDm v).1 ((List.mem_append.1 (hso v hv)).resolve_left hvo)).1
    · obtain ⟨M, hM, hsM⟩ := G.cov s hs hsc fun v hv => Classical.byContradiction fun k => hz ⟨v, hv, k⟩
      exact ⟨M, List.mem_append_left _ hM, hsM⟩
  · -- the running intersections
    intro k hk0 hk
    rw [List.length_append, List.length_singleton] at hk
    rcases Nat.lt_or_ge k b.length with hkb | hkb
    · obtain ⟨⟨r1, r2⟩, r3⟩ := G.rip k hk0 hkb
      have eP : (P ++ [(i : Int)]).getD k 0 = P.getD k 0 := by simp [List.getD, List.getElem?_append_left (show k < P.length by rw [G.pl]; exact hkb)]
      have eb : ∀ x, x < b.length → nb (b ++ [K]) x = nb b x := fun x hx => by simp [nb, List.getD, List.getElem?_append_left hx]
      rw [eP]
      refine ⟨⟨r1, r2⟩, fun j hj v hv hvj => ?_⟩
      rw [eb k hkb] at hv
      rw [eb j (by omega)] at hvj
      rw [eb _ (by omega)]
      exact r3 j hj v hv hvj
    · obtain rfl : k = b.length := by omega
      have eP : (P ++ [(i : Int)]).getD b.length 0 = (i : Int) := by rw [← G.pl]; simp [List.getD]
      have eK : nb (b ++ [K]) b.length = K := by simp [nb, List.getD]
      have eb : ∀ x, x < b.length → nb (b ++ [K]) x = nb b x := fun x hx => by simp [nb, List.getD, List.getElem?_append_left hx]
      rw [eP, eK]
      refine ⟨⟨by omega, by omega⟩, fun j hj v hv hvj => ?_⟩
      rw [eb j hj] at hvj
      rw [Int.toNat_natCast, eb i hi, ← hC]
      exact hSb v ((hbit v).2 ⟨hv, (G.vis v).2 ⟨_, nb_mem hj, hvj⟩⟩)
  · rw [List.nodup_append]
    exact ⟨G.nod, by simp, fun a ha c hc e => by
      obtain rfl : c = K := by simpa using hc
      subst e
      exact hKb ha⟩
  · rcases Nat.eq_zero_or_pos b.length with h0 | h0
    · omega
    · have : (P ++ [(i : Int)]).getD 0 0 = P.getD 0 0 := by rw [List.getD_eq_getElem?_getD, List.getD_eq_getElem?_getD, List.getElem?_append_left (show 0 < P.length by rw [G.pl]; exact h0)]
      rw [this]; exact G.p0
end
end Go.Proofs.YthncdjcmlpiebaaGreatDoor
namespace Go.Proofs.YthncdjcmlpiebaaGreatDoor
theorem most_of (P : Nat → Prop) (f : Nat → Int) : ∀ n, (∃ v, v < n ∧ P v) → ∃ i, i < n ∧ P i ∧ ∀ j, j < n → P j → f j ≤ f i
  | 0, ⟨v, hv, _⟩ => absurd hv (by omega)
  | n + 1, ⟨v, hv, hp⟩ => by
    by_cases hn : P n
    · by_cases he : ∃ v, v < n ∧ P v
      · obtain ⟨i, h1, h2, h3⟩ := most_of P f n he
        by_cases h4 : f i ≤ f n
        · refine ⟨n, by omega, hn, fun j hj hpj => ?_⟩
          rcases Nat.lt_succ_iff_lt_or_eq.1 hj with h' | rfl
          · have := h3 j h' hpj; omega
          · exact Int.le_refl _
        · refine ⟨i, by omega, h2, fun j hj hpj => ?_⟩
          rcases Nat.lt_succ_iff_lt_or_eq.1 hj with h' | rfl
          · exact h3 j h' hpj
          · omega
      · refine ⟨n, by omega, hn, fun j hj hpj => ?_⟩
        rcases Nat.lt_succ_iff_lt_or_eq.1 hj with h' | rfl
        · exact absurd ⟨j, h', hpj⟩ he
        · exact Int.le_refl _
    · have hvn : v < n := by
        rcases Nat.lt_succ_iff_lt_or_eq.1 hv with h' | rfl
        · exact h'
        · exact absurd hp hn
      obtain ⟨i, h1, h2, h3⟩ := most_of P f n ⟨v, hvn, hp⟩
      refine ⟨i, by omega, h2, fun j hj hpj => ?_⟩
      rcases Nat.lt_succ_iff_lt_or_eq.1 hj with h' | rfl
      · exact h3 j h' hpj
      · exact absurd hpj hn
/-- Each vertex of a hole has two neighbours on it that are no neighbours. -/
theorem hole_apart {n : Nat} {Q o : List Nat} (h : GOk n Q) (hh : HoleP n Q o) {i : Nat} (hi : i < o.length) : ∃ p q, p < o.length ∧ q < o.length ∧ nb o p ≠ nb o q ∧ edge Q (nb o i) (nb o p) = true ∧ edge Q (nb o i) (nb o q) = true ∧ edge Q (nb o p) (nb o q) = false := by
  obtain ⟨ho, h4, hj⟩ := hh
  rw [joinedP_iff] at hj
  have jn : ∀ a b, a < b → b < o.length → jHole o.length a b = true → edge Q (nb o a) (nb o b) = true := fun a b hab hb' e => by rw [hj b hb' a hab]; exact e
  have jf : ∀ a b, a < b → b < o.length → jHole o.length a b = false → edge Q (nb o a) (nb o b) = false := fun a b hab hb' e => by rw [hj b hb' a hab]; exact e
  have jt : ∀ a b, jHole o.length a b = true ↔ b = a + 1 ∨ a = 0 ∧ b + 1 = o.length := fun a b => by simp [jHole]
  have jo : ∀ a b, ¬ (b = a + 1 ∨ a = 0 ∧ b + 1 = o.length) → jHole o.length a b = false := fun a b e => Bool.eq_false_iff.2 fun k => e ((jt a b).1 k)
  have ne : ∀ a b, a < b → b < o.length → nb o a ≠ nb o b := fun a b hab hb' e => by
    have h1 := place_nb ho (show a < o.length by omega)
    have h2 := place_nb ho hb'
    rw [e] at h1
    omega
  rcases Nat.eq_zero_or_pos i with rfl | hi0
  · exact ⟨1, o.length - 1, by omega, by omega, ne _ _ (by omega) (by omega), jn 0 1 (by omega) (by omega) ((jt 0 1).2 (by omega)), jn 0 (o.length - 1) (by omega) (by omega) ((jt _ _).2 (by omega)), jf _ _ (by omega) (by omega) (jo _ _ (by omega))⟩
  · rcases Nat.lt_or_ge (i + 1) o.length with hl | hl
    · exact ⟨i - 1, i + 1, by omega, by omega, ne _ _ (by omega) (by omega), by rw [h.edge_comm]; exact jn (i - 1) i (by omega) (by omega) ((jt _ _).2 (by omega)), jn i (i + 1) (by omega) (by omega) ((jt _ _).2 (by omega)), jf _ _ (by omega) (by omega) (jo _ _ (by omega))⟩
    · exact ⟨0, i - 1, by omega, by omega, ne _ _ (by omega) (by omega), by rw [h.edge_comm]; exact jn 0 i (by omega) (by omega) ((jt _ _).2 (by omega)), by rw [h.edge_comm]; exact jn (i - 1) i (by omega) (by omega) ((jt _ _).2 (by omega)), jf _ _ (by omega) (by omega) (jo _ _ (by omega))⟩
section
variable {n : Nat} {Q : List Nat} {a b : Nat → Int}
end
end Go.Proofs.YthncdjcmlpiebaaGreatDoor
namespace Go.Proofs.YthncdjcmlpiebaaGreatDoor

/-- The part p sees all of s. -/
def sees (Q : List Nat) (s p : Nat) : Bool := dif s (nbrs Q p) == 0
def full (Q : List Nat) (s : Nat) (l : List Nat) : Nat := (l.filter fun p => sees Q s p).length
def restOf (n s : Nat) : Nat := dif (2 ^ n - 1) s
def minSep (Q : List Nat) (n s : Nat) : Bool := decide (2 ≤ full Q s (partsOf Q n (restOf n s)))
theorem full_take {Q : List Nat} {s : Nat} {l : List Nat} {k : Nat} (hk : k < l.length) : full Q s (l.take (k + 1)) = full Q s (l.take k) + if sees Q s (l.getD k 0) then 1 else 0 := by
  have e : l.take (k + 1) = l.take k ++ [l.getD k 0] := by
    rw [List.take_add_one, List.getElem?_eq_getElem hk]
    simp [List.getD, List.getElem?_eq_getElem hk]
  rw [full, e, List.filter_append, List.length_append]
  congr 1
  rw [List.filter_cons]
  cases sees Q s (l.getD k 0) <;> rfl
theorem full_len (Q : List Nat) (s : Nat) (l : List Nat) : full Q s l ≤ l.length := List.length_filter_le ..
theorem rest_lt {n s : Nat} : restOf n s < 2 ^ n := by
  have := dif_le (2 ^ n - 1) s
  have := Nat.two_pow_pos n
  unfold restOf
  omega
theorem mem_partsK {Q : List Nat} {n S p : Nat} : ∀ {f L}, sub L S → S < 128 → p ∈ partsK Q n S f L → sub p S
  | 0, _, _, _, h => by cases h
  | f + 1, L, hL, hS, h => by
    rw [partsK] at h
    by_cases h0 : L = 0
    · rw [if_pos h0] at h; cases h
    · rw [if_neg h0] at h
      have hL7 : L < 128 := Nat.lt_of_le_of_lt (sub_le hL) hS
      rcases List.mem_cons.1 h with rfl | h
      · exact grow_sub (sub_trans (low_sub hL7 h0) hL) n
      · exact mem_partsK (sub_trans (fun i hi => by rw [testBit_dif, Bool.and_eq_true] at hi; exact hi.1) hL) hS h
/-- The reference's test, for a part outside s. -/
theorem sees_ref {Q : List Nat} {n s p : Nat} (hp : sub p (restOf n s)) : (around Q p &&& s == s) = sees Q s p := by
  rw [sees, Bool.eq_iff_iff, beq_iff_eq, beq_iff_eq]
  constructor
  · intro e
    apply Nat.eq_of_testBit_eq
    intro i
    have h1 := congrArg (fun y => y.testBit i) e
    simp only [Nat.testBit_and, around, Nat.testBit_or] at h1
    rw [testBit_dif, Nat.zero_testBit]
    have h2 := hp i
    rw [restOf, testBit_dif] at h2
    revert h1 h2
    cases p.testBit i <;> cases s.testBit i <;> cases (nbrs Q p).testBit i <;> simp
  · intro e
    apply Nat.eq_of_testBit_eq
    intro i
    have h1 := congrArg (fun y => y.testBit i) e
    simp only [testBit_dif, Nat.zero_testBit] at h1
    rw [Nat.testBit_and, around, Nat.testBit_or]
    revert h1
    cases p.testBit i <;> cases s.testBit i <;> cases (nbrs Q p).testBit i <;> simp
end Go.Proofs.YthncdjcmlpiebaaGreatDoor
namespace Go.Proofs.YthncdjcmlpiebaaGreatDoor
/-- The first clique alone. -/
theorem Grow.one {n : Nat} {Q : List Nat} (h : GOk n Q) : Grow n Q (maxCliques Q n) [nb (maxCliques Q n) 0] [-1] (listOf (nb (maxCliques Q n) 0)) := by
  have hp := maxCliques_pos h
  obtain ⟨K, hK⟩ : ∃ K, K = nb (maxCliques Q n) 0 := ⟨_, rfl⟩
  have hKm : K ∈ maxCliques Q n := by rw [hK]; exact nb_mem hp
  rw [← hK]
  obtain ⟨hKn, _, hKc⟩ := maxC_lt hKm
  have h7 := h.le
  have hmem : ∀ v, v ∈ listOf K ↔ K.testBit v = true := fun v => by
    rw [mem_listOf]
    exact ⟨fun e => e.2, fun e => ⟨by have := bit_lt hKn e; omega, e⟩⟩
  have ho : natVerts n (listOf K) := ⟨fun v hv => bit_lt hKn ((hmem v).1 hv), listOf_nodup' K⟩
  refine ⟨fun M hM => ?_, fun v => ?_, ho, ?_, fun s hs hsc hso => ⟨K, by simp, fun v hv => (hmem v).1 (hso v hv)⟩, fun i h0 hi => ?_, by simp, rfl, rfl⟩
  · obtain rfl : M = K := by simpa using hM
    exact hKm
  · rw [hmem]
    exact ⟨fun e => ⟨K, by simp, e⟩, fun ⟨M, hM, e⟩ => by
      obtain rfl : M = K := by simpa using hM
      exact e⟩
  · intro p hp z hz hzo
    have hTn : ((listOf K).take p).Nodup := (listOf_nodup' K).sublist (List.take_sublist _ _)
    have hup : card (erl Q (listOf K) p z) ≤ p := by
      have := nodup_sub (l := listOf (erl Q (listOf K) p z)) (m := (listOf K).take p) (listOf_nodup' _) fun v hv => (erl_bit.1 (mem_listOf.1 hv).2).2
      rw [List.length_take] at this
      unfold card
      omega
    have hlo : p ≤ card (erl Q (listOf K) p (nb (listOf K) p)) := by
      have := nodup_sub (l := (listOf K).take p) (m := listOf (erl Q (listOf K) p (nb (listOf K) p))) hTn fun v hv => by
        have hvK := (hmem v).1 (List.mem_of_mem_take hv)
        have hyK := (hmem _).1 (nb_mem hp)
        refine mem_listOf.2 ⟨by have := bit_lt hKn hvK; omega, erl_bit.2 ⟨(clq_pairs h).1 hKc _ (by have := bit_lt hKn hyK; omega) hyK v hvK fun e => ?_, hv⟩⟩
        obtain ⟨x, hx, hx2, e2⟩ := take_mem.1 hv
        rw [e] at e2
        have := ho.inj hx2 hp e2
        omega
      rw [List.length_take] at this
      unfold card
      omega
    omega
  · simp at hi; omega
theorem grow_tree {n : Nat} {Q : List Nat} (h : GOk n Q) (hno : ∀ r, ¬ HoleP n Q r) : ∀ m, m + 1 ≤ (maxCliques Q n).length → ∃ o, Grow n Q (maxCliques Q n) (ctB (maxCliques Q n) m).1 (ctB (maxCliques Q n) m).2 o
  | 0, _ => ⟨_, Grow.one h⟩
  | m + 1, hm => by
    obtain ⟨o, G⟩ := grow_tree h hno m (by omega)
    obtain ⟨_, _, _, s, hs⟩ := ctB_spec (maxK_nodup Q n _) (Nat.two_pow_pos n) (fun x hx => maxCliques_lt hx) m (by show m + 1 ≤ (maxCliques Q n).length; omega)
    have hs' := hs (by show m + 1 < (maxCliques Q n).length; omega)
    have e := ctB_step (L := maxCliques Q n) hs'
    rw [e]
    exact G.step h hno hs'
/-- All maximal cliques in a tree. -/
structure CT (n : Nat) (Q b : List Nat) (P : List Int) : Prop where
  perm : b.Perm (maxCliques Q n)
  rip : RIP b P
  pl : P.length = b.length
  p0 : P.getD 0 0 = -1
theorem tree_ct {n : Nat} {Q : List Nat} (h : GOk n Q) (hno : ∀ r, ¬ HoleP n Q r) : CT n Q (ctB (maxCliques Q n) ((maxCliques Q n).length - 1)).1 (ctB (maxCliques Q n) ((maxCliques Q n).length - 1)).2 := by
  have hp := maxCliques_pos h
  obtain ⟨o, G⟩ := grow_tree h hno ((maxCliques Q n).length - 1) (by omega)
  have hl := (ctB_spec (maxK_nodup Q n _) (Nat.two_pow_pos n) (fun x hx => maxCliques_lt hx) ((maxCliques Q n).length - 1) (by show (maxCliques Q n).length - 1 + 1 ≤ (maxCliques Q n).length; omega)).1
  refine ⟨(List.perm_ext_iff_of_nodup G.nod (maxK_nodup Q n _)).2 fun a => ⟨G.sub a, fun ha => Classical.byContradiction fun hn => ?_⟩, G.rip, G.pl, G.p0⟩
  have := nodup_sub (l := a :: (ctB (maxCliques Q n) ((maxCliques Q n).length - 1)).1) (m := maxCliques Q n) (List.nodup_cons.2 ⟨hn, G.nod⟩) fun x hx => by
    rcases List.mem_cons.1 hx with rfl | hx
    · exact ha
    · exact G.sub x hx
  rw [List.length_cons] at this
  have hl' : (ctB (maxCliques Q n) ((maxCliques Q n).length - 1)).1.length = (maxCliques Q n).length - 1 + 1 := hl
  omega
def par (P : List Int) (i : Nat) : Nat := (P.getD i 0).toNat
theorem RIP.par_lt {b : List Nat} {P : List Int} (R : RIP b P) {i : Nat} (h0 : 0 < i) (hi : i < b.length) : par P i < i := by
  have := (R i h0 hi).1
  unfold par
  omega
theorem RIP.pull {b : List Nat} {P : List Int} (R : RIP b P) {i j v : Nat} (hj : j < i) (hi : i < b.length) (hv : (nb b i).testBit v = true) (hvj : (nb b j).testBit v = true) : (nb b (par P i)).testBit v = true := (R i (by omega) hi).2 j hj v hv hvj
/-- The topmost bag of a vertex. -/
def TopAt (b : List Nat) (v t : Nat) : Prop := t < b.length ∧ (nb b t).testBit v = true ∧ ∀ j, j < t → (nb b j).testBit v = false
theorem top_of {b : List Nat} {v j : Nat} (hj : j < b.length) (hv : (nb b j).testBit v = true) : ∃ t, t ≤ j ∧ TopAt b v t := by
  obtain ⟨t, ht, h1, h2⟩ := least_of (fun j => (nb b j).testBit v = true) j hv
  exact ⟨t, ht, by omega, h1, fun i hi => Bool.eq_false_iff.2 (h2 i hi)⟩
theorem TopAt.le {b : List Nat} {v t j : Nat} (h : TopAt b v t) (hv : (nb b j).testBit v = true) : t ≤ j := by
  rcases Nat.lt_or_ge j t with h' | h'
  · rw [h.2.2 j h'] at hv; cases hv
  · exact h'
theorem TopAt.unique {b : List Nat} {v t t' : Nat} (h : TopAt b v t) (h' : TopAt b v t') : t = t' := Nat.le_antisymm (h.le h'.2.1) (h'.le h.2.1)
/-- What two vertices have in common goes up to the lower one of their topmost bags. -/
theorem RIP.meet {b : List Nat} {P : List Int} (R : RIP b P) {v p t t' : Nat} (ht : TopAt b v t) (ht' : t' ≤ t) (hp' : (nb b t').testBit p = true) : ∀ j, j < b.length → (nb b j).testBit v = true → (nb b j).testBit p = true → (nb b t).testBit p = true := by
  intro j
  induction j using Nat.strongRecOn with
  | _ j ih =>
    intro hj hv hp
    have htj := ht.le hv
    rcases Nat.lt_or_ge t j with h' | h'
    · exact ih (par P j) (R.par_lt (by omega) hj) (by have := R.par_lt (show 0 < j by omega) hj; omega) (R.pull h' hj hv ht.2.1) (R.pull (show t' < j by omega) hj hp hp')
    · obtain rfl : t = j := by omega
      exact hp
section
variable {n : Nat} {Q b : List Nat} {P : List Int}
theorem CT.bag (C : CT n Q b P) {j : Nat} (hj : j < b.length) : nb b j < 2 ^ n ∧ maxi Q n (nb b j) = true ∧ clq Q (nb b j) = true := maxC_lt (C.perm.mem_iff.1 (nb_mem hj))
theorem CT.has (C : CT n Q b P) (h : GOk n Q) {s : Nat} (hs : s < 2 ^ n) (hc : clq Q s = true) : ∃ j, j < b.length ∧ ∀ i, s.testBit i = true → (nb b j).testBit i = true := by
  obtain ⟨M, hM, hsub⟩ := clq_ext h hs hc
  obtain ⟨j, hj, e⟩ := mem_nb (C.perm.mem_iff.2 hM)
  exact ⟨j, hj, by rw [e]; exact hsub⟩
theorem two_bits {x y i : Nat} : (2 ^ x ||| 2 ^ y).testBit i = true ↔ i = x ∨ i = y := by
  rw [Nat.testBit_or, Nat.testBit_two_pow, Nat.testBit_two_pow, Bool.or_eq_true, decide_eq_true_eq, decide_eq_true_eq]
  exact or_congr eq_comm eq_comm
theorem pair_clq (h : GOk n Q) {x y : Nat} (e : x = y ∨ edge Q x y = true) : clq Q (2 ^ x ||| 2 ^ y) = true := by
  rw [clq_pairs h]
  intro a _ hsa c hsc hne
  rw [two_bits] at hsa hsc
  rcases e with rfl | e
  · exfalso
    rcases hsa with rfl | rfl <;> rcases hsc with rfl | rfl <;> exact hne rfl
  · rcases hsa with rfl | rfl <;> rcases hsc with rfl | rfl
    · exact absurd rfl hne
    · exact e
    · rw [h.edge_comm]; exact e
    · exact absurd rfl hne
/-- Two neighbours, or one vertex, share a bag. -/
theorem CT.share (C : CT n Q b P) (h : GOk n Q) {x y : Nat} (hx : x < n) (hy : y < n) (e : x = y ∨ edge Q x y = true) : ∃ j, j < b.length ∧ (nb b j).testBit x = true ∧ (nb b j).testBit y = true := by
  obtain ⟨j, hj, hs⟩ := C.has h (Nat.or_lt_two_pow (Nat.pow_lt_pow_right (by omega) hx) (Nat.pow_lt_pow_right (by omega) hy)) (pair_clq h e)
  exact ⟨j, hj, hs x (two_bits.2 (.inl rfl)), hs y (two_bits.2 (.inr rfl))⟩
theorem CT.top (C : CT n Q b P) (h : GOk n Q) {x : Nat} (hx : x < n) : ∃ t, TopAt b x t := by
  obtain ⟨j, hj, hxj, _⟩ := C.share h hx hx (.inl rfl)
  obtain ⟨t, _, ht⟩ := top_of hj hxj
  exact ⟨t, ht⟩
/-- A graph with a clique tree has no hole. -/
theorem CT.no_hole (C : CT n Q b P) (h : GOk n Q) {o : List Nat} (hh : HoleP n Q o) : False := by
  have h4 := hh.2.1
  have at_ := fun i (hi : i < o.length) => C.top h (hh.1.at_ hi)
  obtain ⟨f, hf⟩ : ∃ f : Nat → Nat, ∀ i, i < o.length → TopAt b (nb o i) (f i) := ⟨fun i => if hi : i < o.length then Classical.choose (at_ i hi) else 0, fun i hi => by show TopAt b (nb o i) (if hi : i < o.length then Classical.choose (at_ i hi) else 0); rw [dif_pos hi]; exact Classical.choose_spec (at_ i hi)⟩
  obtain ⟨i, h1, _, h2⟩ := most_of (fun _ => True) (fun j => (f j : Int)) o.length ⟨0, by omega, trivial⟩
  obtain ⟨p, q, hp, hq, hne, e1, e2, e3⟩ := hole_apart h hh h1
  have key : ∀ p, p < o.length → edge Q (nb o i) (nb o p) = true → (nb b (f i)).testBit (nb o p) = true := fun p hp e => by
    obtain ⟨j, hj, j1, j2⟩ := C.share h (hh.1.at_ h1) (hh.1.at_ hp) (.inr e)
    exact C.rip.meet (hf i h1) (by have := h2 p hp trivial; omega) (hf p hp).2.1 j hj j1 j2
  have k1 := key p hp e1
  have k2 := key q hq e2
  have hb := C.bag (hf i h1).1
  have := (clq_pairs h).1 hb.2.2 _ (by have := hh.1.at_ hp; have := h.le; omega) k1 _ k2 (Ne.symm hne)
  rw [this] at e3; cases e3
def upP (P : List Int) : Nat → Nat → Nat
  | 0, j => j
  | k + 1, j => upP P k (par P j)
def Desc (P : List Int) (i j : Nat) : Prop := ∃ k, upP P k j = i
theorem Desc.refl (i : Nat) : Desc P i i := ⟨0, rfl⟩
theorem Desc.of_par {i j : Nat} (h : Desc P i (par P j)) : Desc P i j := by
  obtain ⟨k, hk⟩ := h
  exact ⟨k + 1, hk⟩
theorem upP_add (P : List Int) (a : Nat) : ∀ c j, upP P (c + a) j = upP P a (upP P c j)
  | 0, j => by rw [Nat.zero_add]; rfl
  | c + 1, j => by rw [Nat.succ_add]; exact upP_add P a c (par P j)
theorem Desc.trans {i j k : Nat} (h : Desc P i j) (h' : Desc P j k) : Desc P i k := by
  obtain ⟨a, rfl⟩ := h
  obtain ⟨c, rfl⟩ := h'
  exact ⟨c + a, upP_add P a c k⟩
theorem CT.par0 (C : CT n Q b P) : par P 0 = 0 := by rw [par, C.p0]; rfl
theorem CT.par_le (C : CT n Q b P) {j : Nat} (hj : j < b.length) : par P j ≤ j := by
  rcases Nat.eq_zero_or_pos j with rfl | h0
  · rw [C.par0]; exact Nat.le_refl _
  · exact Nat.le_of_lt (C.rip.par_lt h0 hj)
theorem CT.desc_le (C : CT n Q b P) {i : Nat} : ∀ {j : Nat}, j < b.length → Desc P i j → i ≤ j := by
  intro j hj ⟨k, hk⟩
  induction k generalizing j with
  | zero => exact Nat.le_of_eq hk.symm
  | succ k ih =>
    have h1 := C.par_le hj
    exact Nat.le_trans (ih (j := par P j) (by omega) hk) h1
/-- A vertex's bags lie below its topmost one. -/
theorem CT.below (C : CT n Q b P) {v t : Nat} (ht : TopAt b v t) : ∀ j, j < b.length → (nb b j).testBit v = true → Desc P t j := by
  intro j
  induction j using Nat.strongRecOn with
  | _ j ih =>
    intro hj hv
    have htj := ht.le hv
    rcases Nat.lt_or_ge t j with h' | h'
    · have hlt := C.rip.par_lt (show 0 < j by omega) hj
      exact (ih (par P j) hlt (by omega) (C.rip.pull h' hj hv ht.2.1)).of_par
    · obtain rfl : t = j := by omega
      exact Desc.refl t
/-- Whoever stands outside and meets one from below in a bag stands in the bag and in its parent. -/
theorem CT.leave (C : CT n Q b P) {i x y tx ty j : Nat} (hx : TopAt b x tx) (hy : TopAt b y ty) (hj : j < b.length) (hxj : (nb b j).testBit x = true) (hyj : (nb b j).testBit y = true) (hd : Desc P i tx) (hn : ¬ Desc P i ty) : (nb b i).testBit y = true ∧ (nb b (par P i)).testBit y = true ∧ 0 < i := by
  have hdj := hd.trans (C.below hx j hj hxj)
  obtain ⟨k, hk⟩ := hdj
  clear hxj hd
  induction k generalizing j with
  | zero =>
    obtain rfl : j = i := hk
    have h1 := hy.le hyj
    rcases Nat.lt_or_ge ty j with h' | h'
    · exact ⟨hyj, C.rip.pull h' hj hyj hy.2.1, by omega⟩
    · obtain rfl : ty = j := by omega
      exact absurd (Desc.refl ty) hn
  | succ k ih =>
    have h1 := hy.le hyj
    rcases Nat.lt_or_ge ty j with h' | h'
    · have hlt := C.rip.par_lt (show 0 < j by omega) hj
      exact ih (j := par P j) (by omega) (C.rip.pull h' hj hyj hy.2.1) hk
    · obtain rfl : ty = j := by omega
      exact absurd ⟨k + 1, hk⟩ hn
end
end Go.Proofs.YthncdjcmlpiebaaGreatDoor
