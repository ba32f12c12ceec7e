/- Umbrella orders: the band is the largest clique less one; the least unit model is a model of the graph; what stands against them. No program in sight. A law on a region that draws: its first n operations are still (they read, and call what leaves the world as it was), in whatever order; the others come behind them, in whatever order, and may change the world. Draws: graphs that may have a triple. Draws: graphs that may have an umbrella order. What a draw of a graph and a list gives. -/
import Derived.Test.YthncdjcmlpiebaaGreatQp01
import Derived.Test.YthncdjcmlpiebaaGreatQp04
import Derived.Test.YthncdjcmlpiebaaGreatQp07
import Derived.Test.YthncdjcmlpiebaaGreatQp11
import Derived.Test.YthncdjcmlpiebaaGreatQp12
import Derived.Test.YthncdjcmlpiebaaGreatQp19
import Derived.Deep.RegionWith
import Derived.StillTail
import Derived.StillTailTactics
namespace Go.Proofs.YthncdjcmlpiebaaGreat
theorem umb_clq {n : Nat} {Q o : List Nat} (h : GOk n Q) (hI : OrdI Q o) (hU : OrdU Q o) {i j : Nat} (hji : j < i) (hi : i < o.length) (e : edge Q (nb o i) (nb o j) = true) : ∀ a b, j ≤ a → a < b → b ≤ i → edge Q (nb o a) (nb o b) = true := fun a b ha hab hb => by
  have e0 : edge Q (nb o j) (nb o i) = true := by rw [h.edge_comm]; exact e
  have e1 : edge Q (nb o j) (nb o b) = true := by
    rcases Nat.lt_or_ge b i with h1 | h1
    · exact hI j b i (by omega) h1 hi e0
    · obtain rfl : b = i := by omega
      exact e0
  rcases Nat.lt_or_ge j a with h1 | h1
  · rw [h.edge_comm]; exact hU j a b h1 hab (by omega) e1
  · obtain rfl : a = j := by omega
    exact e1
theorem card_one {v : Nat} (hv : v < 7) : card (2 ^ v) = 1 := by
  have : v = 0 ∨ v = 1 ∨ v = 2 ∨ v = 3 ∨ v = 4 ∨ v = 5 ∨ v = 6 := by omega
  rcases this with rfl | rfl | rfl | rfl | rfl | rfl | rfl <;> decide
theorem umb_band {n : Nat} {Q o : List Nat} (h : GOk n Q) (ho : natVerts n o) (hl : o.length = n) (hI : OrdI Q o) (hU : OrdU Q o) : bandI Q o n + 1 = card (bestK (clq Q) (2 ^ n - 1)) := by
  obtain ⟨s, hs⟩ : ∃ s, s = bestK (clq Q) (2 ^ n - 1) := ⟨_, rfl⟩
  have hp := Nat.two_pow_pos n
  have hle := bestK_le (clq Q) (2 ^ n - 1)
  have hh := bestK_holds (P := clq Q) (k := 2 ^ n - 1)
  have h1 := h.pos
  have h7 := h.le
  have h2n : 2 ^ 0 < 2 ^ n := Nat.pow_lt_pow_right (by omega) (by omega)
  have hc1 : 1 ≤ card s := by
    have := bestK_top (P := clq Q) (k := 2 ^ n - 1) (s := 2 ^ 0) (by omega) (by omega) (one_clq h)
    rw [card_one (by omega), ← hs] at this
    exact this
  rw [← hs] at hle hh ⊢
  have hs0 : s ≠ 0 := fun e => by rw [e, card_zero] at hc1; omega
  have hsc := hh.resolve_left hs0
  have hslt : s < 2 ^ n := by omega
  apply Nat.le_antisymm
  · -- the band's ends and what lies between are a clique
    have key : bandI Q o n ≤ card s - 1 := by
      rw [bandI_spec]
      intro i hi j hj e
      obtain ⟨l, hL⟩ : ∃ l, l = (List.range (i - j + 1)).map fun d => nb o (j + d) := ⟨_, rfl⟩
      have hml : ∀ v, v ∈ l ↔ ∃ a, j ≤ a ∧ a ≤ i ∧ nb o a = v := fun v => by
        rw [hL, List.mem_map]
        constructor
        · rintro ⟨d, hd, rfl⟩
          have := List.mem_range.1 hd
          exact ⟨j + d, by omega, by omega, rfl⟩
        · rintro ⟨a, h1, h2, rfl⟩
          exact ⟨a - j, List.mem_range.2 (by omega), by rw [show j + (a - j) = a by omega]⟩
      have hnd : l.Nodup := by
        rw [hL, List.Nodup, List.pairwise_map]
        refine List.nodup_range.imp_of_mem fun {a b} ha hb hne e => ?_
        have := List.mem_range.1 ha
        have := List.mem_range.1 hb
        have := ho.inj (i := j + a) (j := j + b) (by omega) (by omega) e
        omega
      have hlt : ∀ v ∈ l, v < n := fun v hv => by
        obtain ⟨a, _, h2, rfl⟩ := (hml v).1 hv
        exact ho.at_ (by omega)
      have hcl : clq Q (setN l) = true := by
        rw [clq_pairs h]
        intro u _ hu v hv hne
        rw [testBit_setN, decide_eq_true_eq, hml] at hu hv
        obtain ⟨a, a1, a2, rfl⟩ := hu
        obtain ⟨b, b1, b2, rfl⟩ := hv
        rcases Nat.lt_trichotomy a b with hab | hab | hab
        · exact umb_clq h hI hU hj (by omega) e a b a1 hab b2
        · exact absurd (by rw [hab]) hne
        · rw [h.edge_comm]; exact umb_clq h hI hU hj (by omega) e b a b1 hab a2
      have hcard := card_setN hnd fun v hv => by have := hlt v hv; omega
      have hlen : l.length = i - j + 1 := by rw [hL, List.length_map, List.length_range]
      have hset0 : setN l ≠ 0 := fun e0 => by rw [e0, card_zero] at hcard; omega
      have hsl := setN_lt hlt
      have := bestK_top (P := clq Q) (k := 2 ^ n - 1) (s := setN l) (by omega) (by omega) hcl
      rw [← hs] at this
      omega
    omega
  · -- the places of a largest clique
    obtain ⟨B, hB⟩ : ∃ B, B = bandI Q o n := ⟨_, rfl⟩
    have hband := (bandI_spec Q o B n).1 (by omega)
    rw [← hB]
    have hmem : ∀ v, v ∈ listOf s → v < n ∧ s.testBit v = true := fun v hv => ⟨bit_lt hslt (mem_listOf.1 hv).2, (mem_listOf.1 hv).2⟩
    obtain ⟨v0, hv0⟩ : ∃ v, v ∈ listOf s := by
      rcases hl0 : listOf s with _ | ⟨v, t⟩
      · have : card s = 0 := by rw [card, hl0]; rfl
        omega
      · exact ⟨v, List.mem_cons_self ..⟩
    obtain ⟨u, u1, u2, u3⟩ := most_of (fun v => s.testBit v = true) (fun v => -(place o v : Int)) n ⟨v0, hmem v0 hv0⟩
    have hg : ∀ v, v ∈ listOf s → place o u ≤ place o v ∧ place o v - place o u ≤ B := fun v hv => by
      obtain ⟨v1, v2⟩ := hmem v hv
      have h3 := u3 v v1 v2
      have h4 : place o u ≤ place o v := by omega
      refine ⟨h4, ?_⟩
      by_cases e : u = v
      · subst e; omega
      · have hc := hsc
        rw [clq_pairs h] at hc
        have hed := hc v (by omega) v2 u u2 e
        have hpu := place_at (ho.all hl u1)
        have hpv := place_at (ho.all hl v1)
        have hne : place o u ≠ place o v := fun k => e (by rw [← hpu, ← hpv, k])
        exact hband (place o v) (by have := place_lt (ho.all hl v1); omega) (place o u) (by omega) (by rw [hpu, hpv]; exact hed)
    have := nodup_sub (l := (listOf s).map fun v => place o v - place o u) (m := List.range (B + 1)) (by
      rw [List.Nodup, List.pairwise_map]
      refine (listOf_ndp s).imp_of_mem fun {a b} ha hb hne e => ?_
      have ga := hg a ha
      have gb := hg b hb
      have pa := place_at (ho.all hl (hmem a ha).1)
      have pb := place_at (ho.all hl (hmem b hb).1)
      have : place o a = place o b := by omega
      exact hne (by rw [← pa, ← pb, this])) (fun x hx => by
      obtain ⟨v, hv, rfl⟩ := List.mem_map.1 hx
      exact List.mem_range.2 (by have := (hg v hv).2; omega))
    rw [List.length_map, List.length_range] at this
    exact this
def cndS (J : Nat → Nat → Bool) (x : List Nat) (k i : Nat) : Prop := (if J i k = true then nb x k - 7 ≤ nb x i else nb x i + 8 ≤ nb x k) ∧ (i + 1 = k → nb x i ≤ nb x k)
theorem upF_cnd {s : List Nat × Bool} {v l : Nat} (h : (upF s v l).2 = false) : l ≤ nb s.1 v := by
  unfold upF at h
  split at h
  · cases h
  · omega
theorem rsI_cnd {J : Nat → Nat → Bool} {s : List Nat × Bool} {k : Nat} : ∀ {i}, (rsI J s k i).2 = false → ∀ j, j < i → cndS J s.1 k j
  | 0, _, j, hj => absurd hj (by omega)
  | i + 1, h, j, hj => by
    rw [rsI] at h
    have h1 := rsB_flag h
    have hA : (rsA J (rsI J s k i) k i).2 = false := by rw [← h1]; exact h
    have h2 := rsA_flag hA
    have hI : (rsI J s k i).2 = false := by rw [← h2]; exact hA
    have h3 := rsI_flag hI
    rcases Nat.lt_succ_iff_lt_or_eq.1 hj with hj | rfl
    · exact rsI_cnd hI j hj
    · rw [h3] at hA
      rw [h2, h3] at h
      refine ⟨?_, fun e => ?_⟩
      · rw [rsA] at hA
        split
        · rename_i hJ
          rw [if_pos hJ] at hA
          exact upF_cnd hA
        · rename_i hJ
          rw [if_neg hJ] at hA
          exact upF_cnd hA
      · rw [rsB, if_pos e] at h
        exact upF_cnd h
theorem rsK_cnd {J : Nat → Nat → Bool} {s : List Nat × Bool} : ∀ {m}, (rsK J s m).2 = false → ∀ k, k < m → ∀ j, j < k → cndS J s.1 k j
  | 0, _, k, hk => absurd hk (by omega)
  | m + 1, h, k, hk => by
    rw [rsK] at h
    have h1 := rsI_flag h
    have h2 : (rsK J s m).2 = false := by rw [← h1]; exact h
    have h3 := rsK_flag h2
    rcases Nat.lt_succ_iff_lt_or_eq.1 hk with hk | rfl
    · exact rsK_cnd h2 k hk
    · rw [h3] at h
      exact rsI_cnd h
def lowS (n : Nat) (s : List Nat) : Bool := (rsR (adjS s) n 3).all fun x => decide (x ≤ 92)
set_option maxRecDepth 100000 in
theorem low_small : ((List.range 7).all fun n => (stairs n n).all fun s => lowS n s) = true := by decide +kernel
set_option maxRecDepth 100000 in
theorem low7_0 : ((chunk7 0).all fun s => lowS 7 s) = true := by decide +kernel
set_option maxRecDepth 100000 in
theorem low7_1 : ((chunk7 1).all fun s => lowS 7 s) = true := by decide +kernel
set_option maxRecDepth 100000 in
theorem low7_2 : ((chunk7 2).all fun s => lowS 7 s) = true := by decide +kernel
set_option maxRecDepth 100000 in
theorem low7_3 : ((chunk7 3).all fun s => lowS 7 s) = true := by decide +kernel
set_option maxRecDepth 100000 in
theorem low7_4 : ((chunk7 4).all fun s => lowS 7 s) = true := by decide +kernel
set_option maxRecDepth 100000 in
theorem low7_5 : ((chunk7 5).all fun s => lowS 7 s) = true := by decide +kernel
set_option maxRecDepth 100000 in
theorem low7_6 : ((chunk7 6).all fun s => lowS 7 s) = true := by decide +kernel
set_option maxRecDepth 100000 in
theorem low7_7 : ((chunk7 7).all fun s => lowS 7 s) = true := by decide +kernel
set_option maxRecDepth 100000 in
theorem low7_8 : ((chunk7 8).all fun s => lowS 7 s) = true := by decide +kernel
set_option maxRecDepth 100000 in
theorem low7_9 : ((chunk7 9).all fun s => lowS 7 s) = true := by decide +kernel
set_option maxRecDepth 100000 in
theorem low7_10 : ((chunk7 10).all fun s => lowS 7 s) = true := by decide +kernel
set_option maxRecDepth 100000 in
theorem low7_11 : ((chunk7 11).all fun s => lowS 7 s) = true := by decide +kernel
set_option maxRecDepth 100000 in
theorem low_all {n : Nat} (hn : n ≤ 7) {s : List Nat} (h : s ∈ stairs n n) : lowS n s = true := by
  rcases Nat.lt_or_ge n 7 with hlt | hge
  · exact List.all_eq_true.1 (List.all_eq_true.1 low_small n (List.mem_range.2 hlt)) s h
  · obtain rfl : n = 7 := by omega
    obtain ⟨j, hj, hm⟩ := mem_chunk (b := 36) (m := 12) (by omega) (by rw [len_seven]; omega) h
    have hc : ((chunk7 j).all fun s => lowS 7 s) = true := by
      match j, hj with
      | 0, _ => exact low7_0
      | 1, _ => exact low7_1
      | 2, _ => exact low7_2
      | 3, _ => exact low7_3
      | 4, _ => exact low7_4
      | 5, _ => exact low7_5
      | 6, _ => exact low7_6
      | 7, _ => exact low7_7
      | 8, _ => exact low7_8
      | 9, _ => exact low7_9
      | 10, _ => exact low7_10
      | 11, _ => exact low7_11
    exact List.all_eq_true.1 hc s hm
theorem unit_low {n : Nat} {Q o : List Nat} (h : GOk n Q) (hl : o.length = n) (hu : umb Q o = true) (i : Nat) : nb (rsR (adjP Q o) n 3) i ≤ 92 := by
  obtain ⟨h1, h2⟩ := umb_adj h hl hu
  have hc : ∀ i k, i < k → k < n → adjP Q o i k = adjS (stairOf (adjP Q o) n n) i k := fun i k hik hk => stair_adj h2 hik hk
  have hok := low_all h.le (mem_stairs h1 n (Nat.le_refl _))
  rw [lowS, ← rsR_congr hc] at hok
  rcases Nat.lt_or_ge i (rsR (adjP Q o) n 3).length with hi | hi
  · have := List.all_eq_true.1 hok _ (nb_mem hi)
    exact of_decide_eq_true this
  · have e : nb (rsR (adjP Q o) n 3) i = 0 := by simp [nb, List.getD, List.getElem?_eq_none hi]
    omega
theorem unit_mono {J : Nat → Nat → Bool} {x : List Nat} {n : Nat} (hc : ∀ k, k < n → ∀ j, j < k → cndS J x k j) : ∀ d i, i + d < n → nb x i ≤ nb x (i + d)
  | 0, _, _ => Nat.le_refl _
  | d + 1, i, h => by
    have h1 := unit_mono hc d i (by omega)
    have h2 := (hc (i + (d + 1)) h (i + d) (by omega)).2 (by omega)
    omega
/-- The unit model is one, and a model of the graph. -/
theorem unit_model {N : Int} {X : List Int} {o : List Nat} (hu : umbOf N X = some o) : isUnitModel (unitOf N X).1 (unitOf N X).2.1 7 = true ∧ isModelOf N X (unitOf N X).1 (unitOf N X).2.1 = true := by
  obtain ⟨n, Q, rfl, rfl, h, ho, hl, hub⟩ := umbOf_spec hu
  rw [unitOf_some hu]
  obtain ⟨hf, _⟩ := unit_same h hl hub
  have hc := rsK_cnd hf
  obtain ⟨x, hx⟩ : ∃ x, x = rsR (adjP Q o) n 3 := ⟨_, rfl⟩
  have hc : ∀ k, k < n → ∀ j, j < k → cndS (adjP Q o) x k j := by rw [hx]; exact hc
  have hlow : ∀ i, nb x i ≤ 92 := fun i => by rw [hx]; exact unit_low h hl hub i
  have gL : ∀ v, v < n → (ints (unitL Q o n)).getD v 0 = (nb x (place o v) : Nat) := fun v hv => by
    rw [ints_nb, unitL, nb_lfo _ hv, hx]
  have gR : ∀ v, v < n → (ints (unitR Q o n)).getD v 0 = (nb x (place o v) : Nat) + 7 := fun v hv => by
    rw [ints_nb, unitR, nbU_map (by rw [unitL_len]; exact hv), unitL, nb_lfo _ hv, hx]
    omega
  have hm : isModel (ints (unitL Q o n)) (ints (unitR Q o n)) = true := by
    refine isModel_true (by rw [ints_len, unitL_len]; exact h.pos) (by rw [ints_len, unitL_len]; exact h.le) (by rw [ints_len, ints_len, unitL_len, unitR_len]) fun j hj => ?_
    rw [ints_len, unitL_len] at hj
    rw [gL j hj, gR j hj, mOk_iff]
    have := hlow (place o j)
    omega
  refine ⟨isUnitModel_true hm fun j hj => ?_, iv_model h hm (by rw [ints_len, unitL_len]) ⟨fun v hv => ?_, fun u v huv hv hne => ?_⟩⟩
  · rw [ints_len, unitL_len] at hj
    rw [gL j hj, gR j hj]
    omega
  · show (ints (unitL Q o n)).getD v 0 ≤ (ints (unitR Q o n)).getD v 0
    rw [gL v hv, gR v hv]; omega
  · show _ ↔ (ints (unitL Q o n)).getD u 0 ≤ (ints (unitR Q o n)).getD v 0 ∧ (ints (unitL Q o n)).getD v 0 ≤ (ints (unitR Q o n)).getD u 0
    rw [gL u huv, gR u huv, gL v hv, gR v hv]
    have key : ∀ u v, u < n → v < n → place o u < place o v → (edge Q u v = true ↔ nb x (place o u) ≤ nb x (place o v) + 7 ∧ nb x (place o v) ≤ nb x (place o u) + 7) := fun u v hu hv hlt => by
      have mu := ho.all hl hu
      have mv := ho.all hl hv
      have lv := place_lt mv
      have hcc := (hc (place o v) (by omega) (place o u) hlt).1
      have hmo := unit_mono hc (place o v - place o u) (place o u) (by omega)
      rw [show place o u + (place o v - place o u) = place o v by omega] at hmo
      have e : adjP Q o (place o u) (place o v) = edge Q u v := by rw [adjP, place_at mu, place_at mv]
      rw [e] at hcc
      constructor
      · intro he
        rw [if_pos he] at hcc
        omega
      · intro hh
        rcases Bool.eq_false_or_eq_true (edge Q u v) with he | he
        · exact he
        · rw [he, if_neg (by simp)] at hcc
          omega
    have mu := ho.all hl huv
    have mv := ho.all hl hv
    have hp : place o u ≠ place o v := fun e => hne (by rw [← place_at mu, ← place_at mv, e])
    rcases Nat.lt_or_gt_of_ne hp with h1 | h1
    · rw [key u v huv hv h1]; omega
    · rw [h.edge_comm, key v u hv huv h1]; omega
theorem unit_some (N : Int) (X : List Int) : (unitOf N X).2.2 = (umbOf N X).isSome := by
  rw [unitOf]
  split <;> rename_i e <;> rw [e] <;> rfl
theorem umb_band_law {N : Int} {X : List Int} {o : List Nat} (hu : umbOf N X = some o) : isUmb N X (ints o) = true ∧ bandOf N X (ints o) = max 0 (ofGraph N X (-1) cliqueNumber - 1) := by
  obtain ⟨n, Q, rfl, rfl, h, ho, hl, hub⟩ := umbOf_spec hu
  have hv : isOrder n (ints Q) (ints o) = true := isOrder_nat h ho hl
  obtain ⟨hI, hU⟩ := umb_ordI h hl hub
  refine ⟨?_, ?_⟩
  · rw [isUmb, hv, nats_ints4, nats_ints4, hub]; rfl
  · rw [bandOf_ok hv, ofGraph_ok h, cliqueNumber, hl]
    have := umb_band h ho hl hI hU
    omega
def legs : List Nat := [14, 17, 33, 65, 2, 4, 8]
theorem legs_ok : GOk 7 legs := by
  have e : legs = addE (addE (addE (addE (addE (addE (List.replicate 7 0) 0 1) 0 2) 0 3) 1 4) 2 5) 3 6 := by decide
  rw [e]
  exact ((((((GOk.empty (by omega) (by omega)).addE (by omega) (by omega) (by omega)).addE (by omega) (by omega) (by omega)).addE (by omega) (by omega) (by omega)).addE (by omega) (by omega) (by omega)).addE (by omega) (by omega) (by omega)).addE (by omega) (by omega) (by omega)
def avB (Q : List Nat) (n a b c : Nat) : Bool := (awayS Q n c).testBit a && (awayS Q n c).testBit b && (grow Q (awayS Q n c) (2 ^ b) n).testBit a
def tripB (Q : List Nat) (n : Nat) : Bool := (List.range n).any fun a => (List.range n).any fun b => (List.range n).any fun c => decide (a ≠ b ∧ b ≠ c ∧ c ≠ a) && avB Q n a b c && avB Q n b c a && avB Q n c a b
theorem tripB_trip {n : Nat} {Q : List Nat} (h : tripB Q n = true) : ∃ a b c, a < n ∧ b < n ∧ c < n ∧ Trip Q n a b c := by
  simp only [tripB, List.any_eq_true, List.mem_range, Bool.and_eq_true, decide_eq_true_eq, avB] at h
  obtain ⟨a, ha, b, hb, c, hc, ⟨⟨hne, ⟨a1, a2⟩, a3⟩, ⟨b1, b2⟩, b3⟩, ⟨c1, c2⟩, c3⟩ := h
  exact ⟨a, b, c, ha, hb, hc, hne, ⟨a1, a2, n, a3⟩, ⟨b1, b2, n, b3⟩, c1, c2, n, c3⟩
theorem clawS_found {n : Nat} {Q : List Nat} (h : GOk n Q) (ht : clawS Q n = true) : (clawOf n (ints Q)).isSome = true := by
  simp only [clawS, List.any_eq_true, List.mem_range, Bool.and_eq_true, Bool.not_eq_true'] at ht
  obtain ⟨c, hc, x, hx, e1, y, hy, ⟨e2, e4⟩, z, hz, ⟨e3, e5⟩, e6⟩ := ht
  have irr : ∀ j, (nb Q c).testBit j = true → c ≠ j := fun j e k => by
    subst k
    rw [h.irr] at e
    cases e
  have n1 := irr x e1
  have n2 := irr y e2
  have n3 := irr z e3
  refine claw_found h (c := c) (x := x) (y := y) (z := z) ⟨fun v hv => ?_, ?_⟩ e1 e2 e3 e4 e5 e6
  · simp only [List.mem_cons, List.not_mem_nil, or_false] at hv
    omega
  · simp only [List.nodup_cons, List.mem_cons, List.not_mem_nil, or_false, not_or, not_false_iff, List.nodup_nil, and_true]
    exact ⟨⟨n1, n2, n3⟩, ⟨by omega, by omega⟩, by omega⟩
def bad7 (Q : List Nat) : Bool := clawS Q 7 || tripB Q 7
set_option maxRecDepth 100000 in
theorem legs_bad : (bad7 legs && (List.range 7).all fun a => (List.range 7).all fun b => a == b || bad7 (addE legs a b)) = true := by decide +kernel
/-- Three long legs, and perhaps an edge besides. -/
def Legs (Q : List Nat) : Prop := Q = legs ∨ ∃ a b, a < 7 ∧ b < 7 ∧ a ≠ b ∧ Q = addE legs a b
theorem Legs.ok {Q : List Nat} (hs : Legs Q) : GOk 7 Q := by
  rcases hs with rfl | ⟨a, b, ha, hb, hne, rfl⟩
  · exact legs_ok
  · exact legs_ok.addE ha hb hne
theorem Legs.bad {Q : List Nat} (hs : Legs Q) : (clawOf 7 (ints Q)).isSome = true ∨ ∃ a b c, a < 7 ∧ b < 7 ∧ c < 7 ∧ Trip Q 7 a b c := by
  have hk : bad7 Q = true := by
    have := legs_bad
    rw [Bool.and_eq_true] at this
    rcases hs with rfl | ⟨a, b, ha, hb, hne, rfl⟩
    · exact this.1
    · have h1 := List.all_eq_true.1 (List.all_eq_true.1 this.2 a (List.mem_range.2 ha)) b (List.mem_range.2 hb)
      rw [Bool.or_eq_true, beq_iff_eq] at h1
      exact h1.resolve_left hne
  rw [bad7, Bool.or_eq_true] at hk
  rcases hk with hk | hk
  · exact .inl (clawS_found hs.ok hk)
  · exact .inr (tripB_trip hk)
/-- What is drawn: small, or with three long legs. -/
def le6L (N : Int) (X : List Int) : Prop := X.length ≤ 6 ∨ N = 7 ∧ ∃ Q, X = ints Q ∧ Legs Q
theorem le6L_len {N : Int} {X : List Int} (h : le6L N X) : X.length ≤ 7 := by
  rcases h with h | ⟨_, Q, rfl, hs⟩
  · omega
  · rw [ints_len, hs.ok.len]; omega
theorem umb_none {n : Nat} {Q o : List Nat} (hu : umbOf n (ints Q) = some o) (h : GOk n Q) : prObsOf n (ints Q) = none := by
  obtain ⟨n', Q', e1, e2, h', ho, hl, hub⟩ := umbOf_spec hu
  have e1 : n = n' := by omega
  subst e1
  have e3 : Q = Q' := by
    have := congrArg (fun l => l.map Int.toNat) e2
    simpa [nats_ints4] using this
  subst e3
  obtain ⟨hI, hU⟩ := umb_ordI h hl hub
  obtain ⟨a, b, hi⟩ := ordI_IV h ho hl hI
  rw [prObsOf, ord_no_claw h ho hl hI hU, ivObsOf, hi.hole_none h, hi.trip_none h]
  rfl
/-- A drawn graph has an umbrella order exactly if nothing stands against it. -/
theorem pr_law {N : Int} {X : List Int} (hg : isGraph N X = true) (h6 : le6L N X) : (prObsOf N X).isSome = !(umbOf N X).isSome := by
  obtain ⟨n, Q, rfl, rfl, h⟩ := isGraph_ok hg
  rcases ho : umbOf n (ints Q) with _ | o
  · rw [Option.isSome_none, Bool.not_false]
    rcases hcl : clawOf n (ints Q) with _ | r
    · rcases hh : holeOf n (ints Q) with _ | r
      · rcases ht : tripOf n (ints Q) with _ | r
        · exfalso
          rcases h6 with h6 | ⟨e7, Q', e, hs⟩
          · rw [ints_len, h.len] at h6
            have hc : (elimOf n (ints Q)).isSome = true := by rw [chordal_iff, hg, hh]; rfl
            obtain ⟨_, hk⟩ := small_cases h h6 hc ht
            obtain ⟨q, h1, h2, h3, h4⟩ := hk hcl
            have := ordU_umb h h1 h2 h3 h4
            rw [ho] at this; cases this
          · have e7 : n = 7 := by omega
            subst e7
            rcases hs.bad with hcl' | ⟨a, b, c, ha, hb, hc, hT⟩
            · have hcl2 : clawOf ((7 : Nat) : Int) (ints Q') = none := by rw [← e]; exact hcl
              have hcl3 : (clawOf ((7 : Nat) : Int) (ints Q')).isSome = true := hcl'
              rw [hcl2] at hcl3; cases hcl3
            · rw [e] at ht
              exact tripOf_none hs.ok ht ha hb hc hT
        · rw [prObsOf, hcl, ivObsOf, hh, ht]; rfl
      · rw [prObsOf, hcl, ivObsOf, hh]; rfl
    · rw [prObsOf, hcl]; rfl
  · rw [umb_none ho h]; rfl
end Go.Proofs.YthncdjcmlpiebaaGreat
namespace Go.Proofs.YthncdjcmlpiebaaGreat
open Go.RowKit
section
variable {P : Program} {ops : Array Oper} {md : Region.Mode} {w : World}
/-- Each operation behind number n waits for one before it, from n on. -/
def restB (md : Region.Mode) (ops : Array Oper) (n : Nat) : Bool := (List.range ops.size).all fun t => decide (t ≤ n) || (List.range t).any fun s => decide (n ≤ s) && Region.waitsFor md ops t s
theorem ready_waits {listed : Array Bool} {t s : Nat} (hr : t ∈ Region.ready md ops listed) (h : Region.waitsFor md ops t s = true) : listed.getD s false = true := by
  obtain ⟨_, ot, hot, hall⟩ := mem_ready.1 hr
  obtain ⟨o', ho', e, he, hb, hon⟩ := Region.waitsFor_spec h
  obtain rfl : o' = ot := Option.some.inj (ho'.symm.trans hot)
  rw [← hon]
  exact hall e he hb
theorem rest_waits {n : Nat} (hs : Region.sinkB md ops n = true) (hc : restB md ops n = true) {listed : Array Bool} (inv : HeadInv md ops n listed) :
    ∀ (d i : Nat), n - i = d → i < n → listed.getD i true = false → ∀ t, n ≤ t → t ∉ Region.ready md ops listed := by
  intro d
  induction d using Nat.strongRecOn with
  | _ d ih =>
    intro i hd hi hun t ht hr
    have htlt : t < ops.size := by obtain ⟨_, ot, hot, _⟩ := mem_ready.1 hr; exact (Array.getElem?_eq_some_iff.1 hot).1
    rcases Nat.lt_or_ge n t with htn | htn
    · have h1 := List.all_eq_true.1 hc t (List.mem_range.2 htlt)
      rw [Bool.or_eq_true, decide_eq_true_eq] at h1
      rcases h1 with h1 | h1
      · omega
      · obtain ⟨s, hsr, h2⟩ := List.any_eq_true.1 h1
        have hst := List.mem_range.1 hsr
        rw [Bool.and_eq_true, decide_eq_true_eq] at h2
        have h3 := ready_waits hr h2.2
        rw [getD_both (inv.tail s h2.1 (by omega))] at h3
        cases h3
    · obtain rfl : t = n := by omega
      obtain ⟨j, hj, h2⟩ := List.any_eq_true.1 (List.all_eq_true.1 hs i (List.mem_range.2 hi))
      have hjt := List.mem_range.1 hj
      rw [Bool.and_eq_true, decide_eq_true_eq] at h2
      rcases Nat.lt_or_ge j t with hlt | hge
      · rcases hl : listed.getD j false with _ | _
        · exact ih (t - j) (by omega) j rfl hlt (getD_in (by rw [inv.size]; omega) hl) t (Nat.le_refl _) hr
        · obtain ⟨oj, hoj, e, he, hb, hon⟩ := Region.waitsFor_spec h2.2
          have h3 := inv.closed j oj hoj hl e he hb
          rw [hon, getD_both hun] at h3
          cases h3
      · obtain rfl : j = t := by omega
        have h3 := ready_waits hr h2.2
        rw [getD_both hun] at h3
        cases h3
theorem head_first {n i : Nat} {oi : Oper} {v : Value} {L : Array Bool → Act → Prop} (hi : ops[i]? = some oi) (hsel : ∀ (j : Nat) (o : Oper) cs b, ops[j]? = some o → o.op ≠ .select cs b)
    (hT : ∀ listed, HeadInv md ops n listed → ∀ i, i < n → listed.getD i true = false → ∀ t, n ≤ t → t ∉ Region.ready md ops listed) (hin : i < n) (hdone : ∀ listed a, L listed a → ∀ j ∈ Region.ready md ops listed, n ≤ j) :
    ∀ (f : Nat) (listed : Array Bool) (a : Act), HeadInv md ops n listed →
      (∀ j oj, ops[j]? = some oj → j ≠ i → listed.getD j true = false → (∀ e ∈ oj.after, Region.binds md e = true → e.on ≠ i) → oi.apart ops oj = true) →
      i ∈ Region.ready md ops listed → YieldsAt P ops w oi v a →
      wpAnyL P md ops w n L f (listed.setIfInBounds i true) (a.put oi.dst v) → wpAnyL P md ops w n L (f + 1) listed a := by
  intro f
  induction f with
  | zero =>
    intro listed a inv _ hr hy H
    have hun := (mem_ready.1 hr).1
    refine ⟨fun h => (by rw [h] at hr; cases hr), fun j hj => ?_⟩
    have hjn : j < n := Nat.lt_of_not_le fun h => hT listed inv i hin hun j h hj
    by_cases hji : j = i
    · subst hji; exact ⟨hjn, hy.stOp hi H⟩
    · have := hdone _ _ H j (ready_mono hj hji)
      omega
  | succ f ih =>
    intro listed a inv hfree hr hy H
    have hun := (mem_ready.1 hr).1
    refine ⟨fun h => (by rw [h] at hr; cases hr), fun j hj => ?_⟩
    have hjn : j < n := Nat.lt_of_not_le fun h => hT listed inv i hin hun j h hj
    refine ⟨hjn, ?_⟩
    by_cases hji : j = i
    · subst hji; exact hy.stOp hi H
    · have h1 := (H.2 j (ready_mono hj hji)).2
      obtain ⟨hjun, oj, hoj, hall⟩ := mem_ready.1 hj
      have hnot : ∀ e ∈ oj.after, Region.binds md e = true → e.on ≠ i := fun e he hb heq => by
        have h1 := hall e he hb
        rw [heq, getD_both hun] at h1
        cases h1
      have h2 := stOp_put hoj (hfree j oj hoj hji hjun hnot) (fun cs b => hsel i oi cs b hi) (fun cs b => hsel j oj cs b hoj) hy h1
      refine stOp_mono (fun a' h3 => ih (listed.setIfInBounds j true) a' (inv.set hj hjn) (fun k ok hk hki hun2 hno => ?_) (ready_mono hr (Ne.symm hji)) h3.1 ?_) h2
      · refine hfree k ok hk hki ?_ hno
        by_cases hjk : j = k
        · subst hjk; exact hjun
        · rw [getD_set_ne true hjk] at hun2; exact hun2
      · rw [Array.setIfInBounds_comm _ _ hji]
        exact h3.2
/-- The first operations may come up one after another; behind them the listed ones are L0, and only others may come up. -/
def headB (md : Region.Mode) (ops : Array Oper) (L0 : Array Bool) : Nat → Nat → Array Bool → Bool
  | 0, k, listed => decide (listed = L0) && (Region.ready md ops listed).all fun j => decide (k ≤ j)
  | f + 1, k, listed => (Region.ready md ops listed).contains k && Region.free md ops listed k && headB md ops L0 f (k + 1) (listed.setIfInBounds k true)
theorem head_lex {n : Nat} {L0 : Array Bool} {Lq : Act → Prop} (hsel : Region.noSelect ops = true) (hs : Region.sinkB md ops n = true) (hc : restB md ops n = true) (hd : ∀ j ∈ Region.ready md ops L0, n ≤ j) :
    ∀ (l : List Oper) (k : Nat) (listed : Array Bool) (a : Act), (∀ j, j < l.length → l[j]? = ops[k + j]?) → k + l.length = n → HeadInv md ops n listed →
    headB md ops L0 l.length k listed = true → wpStill P ops w Lq l a → wpAnyL P md ops w n (fun listed' a' => listed' = L0 ∧ Lq a') l.length listed a
  | [], k, listed, a, _, _, _, hB, h => by
    simp only [List.length_nil, headB, Bool.and_eq_true, decide_eq_true_eq] at hB
    exact ⟨hB.1, h⟩
  | o :: l, k, listed, a, hl, hk, inv, hB, h => by
    have h0 : ops[k]? = some o := by simpa using (hl 0 (by simp)).symm
    simp only [List.length_cons, headB, Bool.and_eq_true] at hB
    obtain ⟨⟨hr, hf⟩, hB'⟩ := hB
    have hkn : k < n := by simp only [List.length_cons] at hk; omega
    have hr' : k ∈ Region.ready md ops listed := by simpa using hr
    have hst : stOp P ops w k (wpStill P ops w Lq l) a := by unfold stOp; simp only [h0]; exact h
    obtain ⟨v, hy, hK⟩ := yieldsAt_of_stOp h0 hst
    exact head_first h0 (Region.noSelect_spec hsel) (fun listed inv i hi hun => rest_waits hs hc inv _ i rfl hi hun) hkn (fun listed' a' hL => by rw [hL.1]; exact hd) l.length listed a inv (Region.free_spec h0 hf) hr' hy
      (head_lex hsel hs hc hd l (k + 1) _ _ (fun j hj => by have := hl (j + 1) (by simp; omega); simpa [Nat.add_assoc, Nat.add_comm 1 j] using this) (by simp only [List.length_cons] at hk; omega) (inv.set hr' hkn) hB' hK)
def stillAnyB (md : Region.Mode) (ops : Array Oper) (n : Nat) (L0 : Array Bool) : Bool :=
  Region.noSelect ops && decide (n < ops.size) && Region.sinkB md ops n && restB md ops n && headB md ops L0 n 0 (Array.replicate ops.size false) && (Region.ready md ops L0).all fun j => decide (n ≤ j)
theorem wp_region_still_any {id : Nat} {Q : Exit → Act → World → Prop} {a : Act} {l : List Oper} (n : Nat) (L0 : Array Bool) (hm : P.follows .mixedOrders = true) (hB : stillAnyB .any l.toArray n L0 = true)
    (h : wpStill P l.toArray w.drew (fun a' => wpAny P .any l.toArray Q (l.length - n) L0 a' w.drew) (l.take n) a) : (Code.region id l.toArray true).wp P Q a w := by
  simp only [stillAnyB, Bool.and_eq_true, decide_eq_true_eq] at hB
  obtain ⟨⟨⟨⟨⟨hsel, hn⟩, hs⟩, hc⟩, hlex⟩, hd⟩ := hB
  have hn' : n < l.length := by simpa using hn
  have htl : (l.take n).length = n := by simp; omega
  have hd' : ∀ j ∈ Region.ready .any l.toArray L0, n ≤ j := fun j hj => by simpa using List.all_eq_true.1 hd j hj
  have inv0 : HeadInv .any l.toArray n (Array.replicate l.toArray.size false) :=
    ⟨by simp, fun j oj _ hl => (by rw [getD_replicate_false] at hl; cases hl), fun t _ ht => getD_in (by simpa using ht) (getD_replicate_false _ _)⟩
  have H := head_lex (P := P) (md := .any) (w := w.drew) hsel hs hc hd' (l.take n) 0 _ a (fun j hj => by
    have hj' : j < n := by rw [htl] at hj; exact hj
    simp [hj']) (by simpa using htl) inv0 (by rw [htl]; exact hlex) h
  refine wp_region_any hm ?_
  have := wpAny_of_head (Q' := Q) (g := l.length - n) (fun listed a' hL => by rw [hL.1]; exact hL.2) _ _ _ H
  rw [htl] at this
  have e : l.toArray.size = n + (l.length - n) := by simp; omega
  rw [e]
  rw [e] at this
  exact this
end
end Go.Proofs.YthncdjcmlpiebaaGreat
namespace Go.Proofs.YthncdjcmlpiebaaGreat
open Go.RowKit
/-- The edges of the long legs. -/
def la (k : Nat) : Nat := nb [0, 0, 0, 1, 2, 3] k
def lb (k : Nat) : Nat := k + 1
def legsK : Nat → List Nat
  | 0 => List.replicate 7 0
  | k + 1 => addE (legsK k) (la k) (lb k)
set_option maxRecDepth 100000 in
theorem legsK_six : legsK 6 = legs := by decide
set_option maxRecDepth 100000 in
theorem la_lt : ∀ k, k < 6 → la k < 7 ∧ lb k < 7 ∧ la k ≠ lb k := by decide
set_option maxRecDepth 100000 in
theorem legsK_ok : ∀ k, k ≤ 6 → GOk 7 (legsK k)
  | 0, _ => GOk.empty (by omega) (by omega)
  | k + 1, h => (legsK_ok k (by omega)).addE (la_lt k (by omega)).1 (la_lt k (by omega)).2.1 (la_lt k (by omega)).2.2
def addE7 (Q : List Nat) (v x : Nat) : List Nat := if v = x then Q else addE Q v x
set_option maxRecDepth 100000 in
theorem addEdge7 {ad : Addr} {c v x : Nat} {Q : List Nat} {w : World} (hX : RI w (some ad) 7 (ints Q)) (h : GOk 7 Q) (hv : v < 7) (hx : x < 7) :
    Calls Tryz.prog 152 #[.agg #[.int .i64 7, .slice (some ad) 7 c], .int .i64 v, .int .i64 x] w fun e w' => ∃ g d b, e = .returned (.tuple #[.agg #[.int .i64 7, .slice (some ⟨g, 0, none⟩) 7 d], .bool b]) ∧ OwnI w' w.heap.size (some ⟨g, 0, none⟩) 7 d (ints (addE7 Q v x)) ∧ Below w.heap.size w w' := by
  have key : ∀ (Q' : List Nat) (b : Bool) (e : Ending) (w' : World), GOk 7 Q' → GivesGB (7 : Nat) (ints Q') b w e w' → ∃ g d b, e = .returned (.tuple #[.agg #[.int .i64 7, .slice (some ⟨g, 0, none⟩) 7 d], .bool b]) ∧ OwnI w' w.heap.size (some ⟨g, 0, none⟩) 7 d (ints Q') ∧ Below w.heap.size w w' := by
    rintro Q' b e w' h' ⟨A, d, rfl, hown, hb⟩
    have e1 : (ints Q').length = 7 := by rw [ints_len, h'.len]
    rw [e1] at hown ⊢
    obtain ⟨g, rfl⟩ := hown.form (by omega)
    exact ⟨g, d, b, rfl, hown, hb⟩
  by_cases e : v = x
  · subst e
    have e2 : addE7 Q v v = Q := by rw [addE7, if_pos rfl]
    rw [e2]
    exact (addEdge_same ad 7 c v Q w hX h hv).mono fun e w' hg => key Q false e w' h hg
  · have e2 : addE7 Q v x = addE Q v x := by rw [addE7, if_neg e]
    rw [e2]
    exact (addEdge_ok ad 7 c v x Q w hX h hv hx e).mono fun e' w' hg => key _ _ e' w' (h.addE hv hx e) hg
set_option maxRecDepth 100000 in
theorem GX.put {w wr w' : World} {g n c gr gb m d m' d' : Nat} {B A A' : Option Addr} {bs X X' : List Int} {N : Int} (I : GX w g B n c bs gr gb N A m d X wr) (hb : Up wr w') (ho : OwnI w' wr.heap.size A' m' d' X') :
    GX w g B n c bs gr gb N A' m' d' X' ((w'.setCell ⟨gb, 0, none⟩ (.int .i64 N)).setCell ⟨gb, 1, none⟩ (.slice A' m' d')) := by
  have I2 := I.up hb
  have hlow := I.low
  have hgb := I.hgb
  have hne := I.ne
  have hs := I.gby.size
  have o1 := ho.other_store (i := 0) I2.box (by decide) (.int .i64 N)
  have o2 := o1.other_store (i := 1) (I2.box.set_ 0 (.int .i64 N)) (by decide) (.slice A' m' d')
  exact ⟨(I2.cur.set (p := ⟨gb, 0, none⟩) (by show g < gb; omega) _).set (p := ⟨gb, 1, none⟩) (by show g < gb; omega) _, (I2.res.far (p := ⟨gb, 0, none⟩) hne _).far (p := ⟨gb, 1, none⟩) hne _, (I2.box.set_ 0 _).set_ 1 _, o2.more hs,
    gb_set (gb_set I2.gby (p := ⟨gb, 0, none⟩) hgb _) (p := ⟨gb, 1, none⟩) hgb _, hlow, I.hgr, hgb, hne⟩
/-- The literal of edges. -/
structure LG (w : World) (b0 bt : Nat) : Prop where
  top : Blk w bt 24 #[.slice (some ⟨b0, 0, none⟩) 2 2, .slice (some ⟨b0 + 1, 0, none⟩) 2 2, .slice (some ⟨b0 + 2, 0, none⟩) 2 2, .slice (some ⟨b0 + 3, 0, none⟩) 2 2, .slice (some ⟨b0 + 4, 0, none⟩) 2 2, .slice (some ⟨b0 + 5, 0, none⟩) 2 2]
  row : ∀ k, k < 6 → Blk w (b0 + k) 3 #[.int .i64 (la k : Nat), .int .i64 (lb k : Nat)]
set_option maxRecDepth 100000 in
theorem LG.up {w w' : World} {b0 bt : Nat} (h : LG w b0 bt) (hb : Up w w') : LG w' b0 bt := ⟨h.top.up hb, fun k hk => (h.row k hk).up hb⟩
set_option maxRecDepth 100000 in
theorem LG.far {w : World} {b0 bt gb i : Nat} {cs : Array Value} (h : LG w b0 bt) (hb : Blk w gb 26 cs) (u : Value) : LG (w.setCell ⟨gb, i, none⟩ u) b0 bt :=
  ⟨h.top.far (p := ⟨gb, i, none⟩) (h.top.ne_ hb (by decide)) u, fun k hk => (h.row k hk).far (p := ⟨gb, i, none⟩) ((h.row k hk).ne_ hb (by decide)) u⟩
set_option maxRecDepth 100000 in
theorem LG.at_ {w : World} {b0 bt k : Nat} (h : LG w b0 bt) (hk : k < 6) : w.cell? ⟨bt, k, none⟩ = some (.slice (some ⟨b0 + k, 0, none⟩) 2 2) ∧ w.cell? ⟨b0 + k, 0, none⟩ = some (.int .i64 (la k : Nat)) ∧ w.cell? ⟨b0 + k, 1, none⟩ = some (.int .i64 (lb k : Nat)) := by
  refine ⟨?_, (h.row k hk).two⟩
  rw [h.top.cell]
  match k, hk with
  | 0, _ => rfl
  | 1, _ => rfl
  | 2, _ => rfl
  | 3, _ => rfl
  | 4, _ => rfl
  | 5, _ => rfl
set_option maxRecDepth 100000 in
theorem LG.make (w : World) (s : Nat) (hs : w.heap.size = s) : LG (((((((w.alloc (.cells #[.int .i64 0, .int .i64 1] 3)).alloc (.cells #[.int .i64 0, .int .i64 2] 3)).alloc (.cells #[.int .i64 0, .int .i64 3] 3)).alloc (.cells #[.int .i64 1, .int .i64 4] 3)).alloc (.cells #[.int .i64 2, .int .i64 5] 3)).alloc (.cells #[.int .i64 3, .int .i64 6] 3)).alloc
    (.cells #[.slice (some ⟨s, 0, none⟩) 2 2, .slice (some ⟨s + 1, 0, none⟩) 2 2, .slice (some ⟨s + 1 + 1, 0, none⟩) 2 2, .slice (some ⟨s + 1 + 1 + 1, 0, none⟩) 2 2, .slice (some ⟨s + 1 + 1 + 1 + 1, 0, none⟩) 2 2, .slice (some ⟨s + 1 + 1 + 1 + 1 + 1, 0, none⟩) 2 2] 24)) s (s + 1 + 1 + 1 + 1 + 1 + 1) := by
  subst hs
  refine ⟨Blk.new_at (by simp), fun k hk => ?_⟩
  match k, hk with
  | 0, _ => exact ((((((Blk.new_at rfl).alloc _).alloc _).alloc _).alloc _).alloc _).alloc _
  | 1, _ => exact (((((Blk.new_at (by simp)).alloc _).alloc _).alloc _).alloc _).alloc _
  | 2, _ => exact ((((Blk.new_at (by simp)).alloc _).alloc _).alloc _).alloc _
  | 3, _ => exact (((Blk.new_at (by simp)).alloc _).alloc _).alloc _
  | 4, _ => exact ((Blk.new_at (by simp)).alloc _).alloc _
  | 5, _ => exact (Blk.new_at (by simp)).alloc _
set_option maxRecDepth 100000 in
set_option maxHeartbeats 4000000 in
theorem l11Graph_any {g : Nat} {B : Option Addr} {n c : Nat} {bs : List Int} {w : World} (hC : Cur w g B n c bs) :
    Calls Tryz.prog 105 #[.pointer (some ⟨g, 0, none⟩)] w (Dr g B n c bs w fun v w' => Gv le6L w.heap.size v w') := by
  have hmk : ∀ w : World, (Instr.makeSlice 24 (.int .i64 7) (.int .i64 7)).run Tryz.prog w = .ok (.slice (some ⟨w.heap.size, 0, none⟩) 7 7) (w.alloc (.cells (zeros 7) 3)) := fun w => make_ints 7 (by omega) w
  have hlow := hC.lt
  have hU0 : Up w (w.alloc (.cells #[.int .i64 0, .slice none 0 0] 26)) := by go_grown
  have hR0 := Blk.new w 26 #[.int .i64 0, .slice none 0 0]
  have hC0 := hC.up hU0
  have hg0 := gb_of_up (some g) hU0
  obtain ⟨gr, hgr⟩ : ∃ gr, gr = w.heap.size := ⟨_, rfl⟩
  go_enter Tryz.func105, Tryz.ntmps105
  go_wp2_with fail
  refine (l1Once_any hC0 2 (by omega) (by omega)).mono ?_
  rintro e w1 ⟨v, rfl, ⟨b, rfl⟩, hC1, hg1⟩
  have hs1 := hg1.size
  try simp only [World.size_alloc] at hs1
  have hR1 := hR0.grown hg1 (fun e => by injection e with e; omega)
  have hG1 := gb_trans hg0 hg1
  rw [← hgr] at hR1 ⊢
  have hgr' : w.heap.size ≤ gr := by omega
  have hgl1 : gr < w1.heap.size := hR1.lt
  clear hR0 hC0 hg0 hg1 hU0 hC hgr
  cases b
  · have hz : Blk (w1.alloc (.cells (zeros 7) 3)) w1.heap.size 3 (natCells (List.replicate 7 0)) := by rw [natCells_zero]; exact Blk.new _ _ _
    have ho : OwnI (w1.alloc (.cells (zeros 7) 3)) w.heap.size (some ⟨w1.heap.size, 0, none⟩) 7 7 (ints (legsK 0)) := by
      have := hz.own (base := w.heap.size) (n := 7) (by omega) (by rw [natCells_size]; simp) (by unfold maxLen; omega)
      unfold OwnI; exact this
    have hUa : Up w1 (w1.alloc (.cells (zeros 7) 3)) := by go_grown
    have hUb : Up (w1.alloc (.cells (zeros 7) 3)) ((w1.alloc (.cells (zeros 7) 3)).alloc (.cells #[.int .i64 7, .slice (some ⟨w1.heap.size, 0, none⟩) 7 7] 26)) := by go_grown
    have I : GX w g B n c bs gr (w1.heap.size + 1) 7 (some ⟨w1.heap.size, 0, none⟩) 7 7 (ints (legsK 0)) ((w1.alloc (.cells (zeros 7) 3)).alloc (.cells #[.int .i64 7, .slice (some ⟨w1.heap.size, 0, none⟩) 7 7] 26)) :=
      ⟨(hC1.up hUa).up hUb, (hR1.up hUa).up hUb, Blk.new_at (by simp), ho.up hUb, gb_up (gb_up hG1 hUa) hUb, hlow, hgr', by omega, by omega⟩
    clear hC1 hR1 hG1 hUa hUb ho hz
    go_wp2_with fail
    obtain ⟨bt, hbt⟩ : ∃ bt, bt = w1.heap.size + 1 + 1 + 1 + 1 + 1 + 1 + 1 + 1 := ⟨_, rfl⟩
    rw [← hbt]
    obtain ⟨gb, hgb⟩ : ∃ gb, gb = w1.heap.size + 1 := ⟨_, rfl⟩
    rw [← hgb] at I ⊢
    have ebt : bt = gb + 1 + 1 + 1 + 1 + 1 + 1 + 1 := by omega
    have HEB := Lib.hid (And.intro ebt hgb)
    clear hbt ebt hgb
    go_loopw [5] (fun i wr => ∃ (k A d : Nat), k ≤ 6 ∧ i = .int .i64 k ∧ GX w g B n c bs gr gb 7 (some ⟨A, 0, none⟩) 7 d (ints (legsK k)) wr ∧ LG wr (gb + 1) bt) (fun i _ => 6 - (intOf i).toNat)
    case atStart => exact ⟨0, _, _, by omega, rfl, I.up (by go_grown), by rw [HEB.out.1]; exact LG.make _ _ (by have := HEB.out.2; simp; omega)⟩
    case round =>
      clear I hmk
      obtain ⟨k, A, d, hk6, rfl, I, G⟩ := hrel
      obtain ⟨wi, rfl⟩ : ∃ wi : World, wi = wr := ⟨_, rfl⟩
      by_cases hk : k < 6
      · obtain ⟨hc0, hc1, hc2⟩ := G.at_ hk
        obtain ⟨hv, hx, hvx⟩ := la_lt k hk
        have HGk := Lib.hid (legsK_ok k hk6)
        have HSt := Lib.hid (show addE7 (legsK k) (la k) (lb k) = legsK (k + 1) by rw [addE7, if_neg hvx]; rfl)
        obtain ⟨vv, hvv⟩ : ∃ vv, vv = la k := ⟨_, rfl⟩
        obtain ⟨xx, hxx⟩ : ∃ xx, xx = lb k := ⟨_, rfl⟩
        rw [← hvv] at hc1 hv HSt
        rw [← hxx] at hc2 hx HSt
        obtain ⟨br, hbr⟩ : ∃ br, br = gb + 1 + k := ⟨_, rfl⟩
        rw [← hbr] at hc0 hc1 hc2
        clear hvv hxx hvx hbr
        have hy := I.box.two
        go_wp2_with fail
        refine wp_region_still_any 13 #[true, true, true, true, true, true, true, true, true, true, true, true, true, false, false, false, false, false] (by kernel_rfl) (by kernel_rfl) ?_
        simp only [List.take_succ_cons, List.take_zero]
        repeat still_step
        refine wpStill_nil ?_
        refine wpAny_ready (rs := [13]) (by kernel_rfl) (by simp) ?_
        refine AllReady.cons rfl (fun K hK => ?_) AllReady.nil
        go_simp
        go_at_call 152
        refine (addEdge7 (I.own.drew.ri) HGk.out hv hx).mono ?_
        rintro e w9 ⟨g9, d9, f9, rfl, hO9, hb9⟩
        replace hb9 : Up wi w9 := Up.then_ (by go_grown) hb9
        replace hO9 : OwnI w9 wi.heap.size (some ⟨g9, 0, none⟩) 7 d9 (ints (addE7 (legsK k) vv xx)) := hO9
        have I9 := I.up hb9
        have hf9 := I9.box.frozen 0
        have hf91 := I9.box.frozen 1
        have hy9 := I9.box.two
        go_wp2_with fail
        try refine hK _ _ ?_
        try clear hK K
        (try simp only [List.getElem_toArray]); (try simp only [List.getElem_cons_succ]); (try simp only [List.getElem_cons_zero]); (try simp only [Act.put]); (try simp only [List.setIfInBounds_toArray]); (try simp only [List.set_cons_succ]); (try simp only [List.set_cons_zero])
        refine wpAny_take (i := 14) (v := ?_) rfl (by kernel_rfl) (by kernel_rfl) (by kernel_rfl) (fun _ _ _ h => h) (Or.inl ⟨by rfl, ?_⟩) ?_
        rotate_left
        · (intro w'; go_simp; try with_reducible rfl)
        (try simp only [List.getElem_toArray]); (try simp only [List.getElem_cons_succ]); (try simp only [List.getElem_cons_zero]); (try simp only [Act.put]); (try simp only [List.setIfInBounds_toArray]); (try simp only [List.set_cons_succ]); (try simp only [List.set_cons_zero])
        refine wpAny_take (i := 15) (v := ?_) rfl (by kernel_rfl) (by kernel_rfl) (by kernel_rfl) (fun _ _ _ h => h) (Or.inl ⟨by rfl, ?_⟩) ?_
        rotate_left
        · (intro w'; go_simp; try with_reducible rfl)
        (try simp only [List.getElem_toArray]); (try simp only [List.getElem_cons_succ]); (try simp only [List.getElem_cons_zero]); (try simp only [Act.put]); (try simp only [List.setIfInBounds_toArray]); (try simp only [List.set_cons_succ]); (try simp only [List.set_cons_zero])
        refine wpAny_take (i := 16) (v := ?_) rfl (by kernel_rfl) (by kernel_rfl) (by kernel_rfl) (fun _ _ _ h => h) (Or.inl ⟨by rfl, ?_⟩) ?_
        rotate_left
        · (intro w'; go_simp; try with_reducible rfl)
        (try simp only [List.getElem_toArray]); (try simp only [List.getElem_cons_succ]); (try simp only [List.getElem_cons_zero]); (try simp only [Act.put]); (try simp only [List.setIfInBounds_toArray]); (try simp only [List.set_cons_succ]); (try simp only [List.set_cons_zero])
        refine wpAny_ready (rs := [17]) (by kernel_rfl) (by simp) ?_
        refine AllReady.cons rfl (fun K hK => ?_) AllReady.nil
        go_simp
        refine hK _ _ ?_
        try clear hK K
        refine wpAny_done (by kernel_rfl) ?_ _
        have I10 := I.put hb9 hO9
        have G10 := ((G.up hb9).far (i := 0) I9.box (.int .i64 7)).far (i := 1) (I9.box.set_ 0 (.int .i64 7)) (.slice (some ⟨g9, 0, none⟩) 7 d9)
        rw [HSt.out] at I10
        clear I I9 G hf9 hf91 hy9 hy hO9 hb9 hc0 hc1 hc2
        go_wp2
        go_roundw
        case rel => exact ⟨k + 1, g9, d9, by omega, by go_num, I10, G10⟩
        case measure => simp [intOf]; omega
      · obtain rfl : k = 6 := by omega
        rw [legsK_six] at I
        clear G
        have hlg := I.low
        go_wp2_with fail
        refine (l1Below_any I.cur 7 (by omega) (by omega)).mono ?_
        rintro e w2 ⟨v, rfl, ⟨va, rfl, hva⟩, hC2, hg2⟩
        replace I := I.dr hC2 hg2
        clear hC2 hg2
        go_wp2_with fail
        refine (l1Below_any I.cur 7 (by omega) (by omega)).mono ?_
        rintro e w3 ⟨v, rfl, ⟨vb, rfl, hvb⟩, hC3, hg3⟩
        replace I := I.dr hC3 hg3
        clear hC3 hg3
        go_wp2_with fail
        refine (l1Once_any I.cur 2 (by omega) (by omega)).mono ?_
        rintro e w4 ⟨v, rfl, ⟨on, rfl⟩, hC4, hg4⟩
        replace I := I.dr hC4 hg4
        clear hC4 hg4
        cases on
        · have hy := I.box.two
          have hf0 := I.res.frozen 0
          have hf1 := I.res.frozen 1
          have hyr := I.res.two
          obtain ⟨f1, hfin⟩ := I.fin (P := le6L) (.inr ⟨rfl, legs, rfl, .inl rfl⟩)
          clear I
          go_wp2
          generalize (w4.setCell ⟨gr, 0, none⟩ (.int .i64 7)).setCell ⟨gr, 1, none⟩ (.slice (some ⟨A, 0, none⟩) 7 d) = Wf at f1 hfin ⊢
          refine bodyPost_ret (v := .agg #[.int .i64 7, .slice (some ⟨A, 0, none⟩) 7 d]) ?_ rfl ?_
          · simp [results, Tryz.results105, go_sem, hfin]
          exact f1
        · have hy := I.box.two
          have hlb := I.box.lt
          go_wp2_with fail
          refine (addEdge7 I.own.ri legs_ok hva hvb).mono ?_
          rintro e w9 ⟨g9, d9, f9, rfl, hO9, hb9⟩
          have I9 := I.up hb9
          have hf90 := I9.box.frozen 0
          have hf91 := I9.box.frozen 1
          have hy9 := I9.box.two
          have I10 := I.put hb9 hO9
          have hyb := I10.box.two
          have hfr0 := I10.res.frozen 0
          have hfr1 := I10.res.frozen 1
          have hyr := I10.res.two
          have HL : le6L 7 (ints (addE7 legs va vb)) := .inr ⟨rfl, addE7 legs va vb, rfl, by
            rw [addE7]
            split
            · exact .inl rfl
            · rename_i hne; exact .inr ⟨va, vb, hva, hvb, hne, rfl⟩⟩
          obtain ⟨f1, hfin⟩ := I10.fin (P := le6L) HL
          have hneg := I10.ne
          have hneg2 := Ne.symm I10.ne
          clear I I9 I10 hO9 hb9 hy
          go_wp2
          generalize (((w9.setCell ⟨gb, 0, none⟩ (.int .i64 7)).setCell ⟨gb, 1, none⟩ (.slice (some ⟨g9, 0, none⟩) 7 d9)).setCell ⟨gr, 0, none⟩ (.int .i64 7)).setCell ⟨gr, 1, none⟩ (.slice (some ⟨g9, 0, none⟩) 7 d9) = Wf at f1 hfin ⊢
          refine bodyPost_ret (v := .agg #[.int .i64 7, .slice (some ⟨g9, 0, none⟩) 7 d9]) ?_ rfl ?_
          · simp [results, Tryz.results105, go_sem, hfin]
          exact f1
  · clear hmk
    go_wp2_with fail
    refine (l10Graph_any hC1).mono ?_
    rintro e w2 ⟨v, rfl, ⟨N, A, m, d, X, rfl, ho, hX⟩, hC2, hg2⟩
    have hR2 := hR1.grown hg2 (fun e => by injection e with e; omega)
    have hG2 := gb_trans hG1 hg2
    have ho2 := ho.more (base' := w.heap.size) (by omega)
    have hyr := hR2.two
    have hf0 := hR2.frozen 0
    have hf1 := hR2.frozen 1
    obtain ⟨f1, hfin⟩ := finG (N := N) (P := le6L) hR2 ho2 (.inl hX) hC2 hG2 hgr' hlow
    clear hR2 ho2 ho hC2 hG2 hR1 hC1 hg2 hG1
    go_wp2
    generalize (w2.setCell ⟨gr, 0, none⟩ (.int .i64 N)).setCell ⟨gr, 1, none⟩ (.slice A m d) = Wf at f1 hfin ⊢
    refine bodyPost_ret (v := .agg #[.int .i64 N, .slice A m d]) ?_ rfl ?_
    · simp [results, Tryz.results105, go_sem, hfin]
    exact f1
end Go.Proofs.YthncdjcmlpiebaaGreat
namespace Go.Proofs.YthncdjcmlpiebaaGreat
open Go.RowKit
/-- Intervals in a box while they are drawn, a graph's result beside. -/
structure MG (w : World) (g : Nat) (B : Option Addr) (n c : Nat) (bs : List Int) (gr gb : Nat) (A : Option Addr) (na ca : Nat) (L : List Int) (C : Option Addr) (nc cc : Nat) (R : List Int) (wr : World) : Prop where
  cur : Cur wr g B n c bs
  res : Blk wr gr 26 #[.int .i64 0, .slice none 0 0]
  box : Blk wr gb 31 #[.slice A na ca, .slice C nc cc]
  a : OwnI wr w.heap.size A na ca L
  b : OwnI wr w.heap.size C nc cc R
  apart : ∀ j, (Value.slice A na ca).ownBlock = some j → (Value.slice C nc cc).ownBlock ≠ some j
  gby : w.grownBy wr (some g)
  low : g < w.heap.size
  hgr : w.heap.size ≤ gr
  hgb : w.heap.size ≤ gb
  ne : gr ≠ gb
section
variable {w wr w' : World} {g n c gr gb na ca nc cc : Nat} {B A C : Option Addr} {bs L R : List Int}
set_option maxRecDepth 100000 in
theorem MG.up (I : MG w g B n c bs gr gb A na ca L C nc cc R wr) (hb : Up wr w') : MG w g B n c bs gr gb A na ca L C nc cc R w' :=
  ⟨I.cur.up hb, I.res.up hb, I.box.up hb, I.a.up hb, I.b.up hb, I.apart, gbm_up I.gby hb, I.low, I.hgr, I.hgb, I.ne⟩
set_option maxRecDepth 100000 in
theorem MG.dr (I : MG w g B n c bs gr gb A na ca L C nc cc R wr) (hC : Cur w' g B n c bs) (hg : wr.grownBy w' (some g)) : MG w g B n c bs gr gb A na ca L C nc cc R w' :=
  ⟨hC, I.res.grown hg (fun e => by injection e with e; have := I.low; have := I.hgr; omega), I.box.grown hg (fun e => by injection e with e; have := I.low; have := I.hgb; omega), I.a.far_gb hg I.low, I.b.far_gb hg I.low, I.apart, gb_trans I.gby hg, I.low, I.hgr, I.hgb, I.ne⟩
set_option maxRecDepth 100000 in
theorem MG.two (I : MG w g B n c bs gr gb A na ca L C nc cc R wr) : Two wr (Value.slice A na ca).ownBlock (Value.slice C nc cc).ownBlock w.heap.size 3 3 A na ca (L.map (Value.int .i64)) C nc cc (R.map (Value.int .i64)) wr := Two.start I.a I.b I.apart
set_option maxRecDepth 100000 in
theorem MG.box_of {A' C' : Option Addr} {n1 c1 n2 c2 : Nat} {xs ys : List Value} (I : MG w g B n c bs gr gb A na ca L C nc cc R wr) (T : Two wr (Value.slice A na ca).ownBlock (Value.slice C nc cc).ownBlock w.heap.size 3 3 A' n1 c1 xs C' n2 c2 ys w') : Blk w' gb 31 #[.slice A na ca, .slice C nc cc] :=
  T.blk I.box (Ne.symm (own_blk_ne (e := 3) I.a I.box (by decide))) (Ne.symm (own_blk_ne (e := 3) I.b I.box (by decide)))
set_option maxRecDepth 100000 in
theorem MG.pushed {A' C' : Option Addr} {n1 c1 n2 c2 k : Nat} {xs ys : List Int} {u : Value} (I : MG w g B n c bs gr gb A na ca L C nc cc R wr) (T : Two wr (Value.slice A na ca).ownBlock (Value.slice C nc cc).ownBlock w.heap.size 3 3 A' n1 c1 (xs.map (Value.int .i64)) C' n2 c2 (ys.map (Value.int .i64)) w')
    (hbox : (#[Value.slice A na ca, .slice C nc cc] : Array Value).setIfInBounds k u = #[.slice A' n1 c1, .slice C' n2 c2]) : MG w g B n c bs gr gb A' n1 c1 xs C' n2 c2 ys (w'.setCell ⟨gb, k, none⟩ u) := by
  have hna : some gr ≠ (Value.slice A na ca).ownBlock := Ne.symm (own_blk_ne (e := 3) I.a I.res (by decide))
  have hnb : some gr ≠ (Value.slice C nc cc).ownBlock := Ne.symm (own_blk_ne (e := 3) I.b I.res (by decide))
  have hbk := I.box_of T
  have hbel : Below w.heap.size wr w' := T.below (Below.refl _ _) (fun k e => (I.a.block k e).1) (fun k e => (I.b.block k e).1) I.gby.size
  have hlow := I.low
  have hgb := I.hgb
  have ha : OwnI w' w.heap.size A' n1 c1 xs := T.a
  have hb : OwnI w' w.heap.size C' n2 c2 ys := T.b
  exact ⟨(I.cur.belowM hbel hlow).setM (p := ⟨gb, k, none⟩) (by show g < gb; omega) u, (T.blk I.res hna hnb).far (p := ⟨gb, k, none⟩) I.ne u, by rw [← hbox]; exact hbk.set_ k u, ha.other_store (i := k) hbk (by decide) u, hb.other_store (i := k) hbk (by decide) u, T.ne, gbm_set (gb_belowM I.gby hbel) (p := ⟨gb, k, none⟩) hgb u, hlow, I.hgr, hgb, I.ne⟩
end
set_option maxRecDepth 100000 in
set_option maxHeartbeats 4000000 in
theorem l12Graph_any {g : Nat} {B : Option Addr} {n c : Nat} {bs : List Int} {w : World} (hC : Cur w g B n c bs) :
    Calls Tryz.prog 61 #[.pointer (some ⟨g, 0, none⟩)] w (Dr g B n c bs w fun v w' => Gv le6L w.heap.size v w') := by
  have hlow := hC.lt
  have hU0 : Up w (w.alloc (.cells #[.int .i64 0, .slice none 0 0] 26)) := by go_grown
  have hR0 := Blk.new w 26 #[.int .i64 0, .slice none 0 0]
  have hC0 := hC.up hU0
  have hg0 := gb_of_up (some g) hU0
  obtain ⟨gr, hgr⟩ : ∃ gr, gr = w.heap.size := ⟨_, rfl⟩
  go_enter Tryz.func61, Tryz.ntmps61
  go_wp2_with fail
  refine (l1Once_any hC0 2 (by omega) (by omega)).mono ?_
  rintro e w1 ⟨v, rfl, ⟨b, rfl⟩, hC1, hg1⟩
  have hs1 := hg1.size
  try simp only [World.size_alloc] at hs1
  have hR1 := hR0.grown hg1 (fun e => by injection e with e; omega)
  have hG1 := gb_trans hg0 hg1
  rw [← hgr] at hR1 ⊢
  have hgr' : w.heap.size ≤ gr := by omega
  have hgl1 : gr < w1.heap.size := hR1.lt
  clear hR0 hC0 hg0 hg1 hU0 hC hgr
  cases b
  · have hU2 : Up w1 (w1.alloc (.cells #[.slice none 0 0, .slice none 0 0] 31)) := by go_grown
    have I3 : MG w g B n c bs gr w1.heap.size none 0 0 [] none 0 0 [] (w1.alloc (.cells #[.slice none 0 0, .slice none 0 0] 31)) :=
      ⟨hC1.up hU2, hR1.up hU2, Blk.new _ _ _, OwnI.nil_ _ _, OwnI.nil_ _ _, fun j h => (by cases h), gb_up hG1 hU2, hlow, hgr', by omega, by omega⟩
    obtain ⟨gb, hgb⟩ : ∃ gb, gb = w1.heap.size := ⟨_, rfl⟩
    rw [← hgb] at I3
    have hy0 := I3.box.two
    have hf0 := I3.box.frozen 0
    have hf1 := I3.box.frozen 1
    clear hC1 hR1 hG1 hU2
    go_wp2_with fail
    rw [← hgb]
    generalize w1.alloc (.cells #[.slice none 0 0, .slice none 0 0] 31) = w0 at I3 hy0 hf0 hf1 ⊢
    clear hgb hy0 hf0 hf1
    refine (l1Below_any I3.cur 6 (by omega) (by omega)).mono ?_
    rintro e w2 ⟨v, rfl, ⟨x, rfl, hx⟩, hC2, hg2⟩
    replace I3 := I3.dr hC2 hg2
    clear hC2 hg2
    go_wp2_with fail
    go_loopw [4] (fun i wr => ∃ (k : Nat) (A : Option Addr) (ca : Nat) (L : List Int) (C : Option Addr) (cc : Nat) (R : List Int), L.length + k ≤ 6 ∧ R.length = L.length ∧ i = .int .i64 k ∧ MG w g B n c bs gr gb A L.length ca L C L.length cc R wr) (fun i _ => (intOf i).toNat)
    case atStart => exact ⟨1 + x, none, 0, [], none, 0, [], by simp; omega, rfl, by first | rfl | go_num | (show Value.int .i64 _ = Value.int .i64 _; congr 1; omega), I3⟩
    case round =>
      clear I3
      obtain ⟨k, A, ca, L, C, cc, R, hk6, hRL, rfl, I⟩ := hrel
      by_cases hk0 : 0 < k
      · go_wp2_with fail
        refine (l1Below_any I.cur 12 (by omega) (by omega)).mono ?_
        rintro e w2 ⟨v, rfl, ⟨a, rfl, ha⟩, hC2, hg2⟩
        have I2 := I.dr hC2 hg2
        clear I hC2 hg2
        have hs2 := I2.gby.size
        have hy2 := I2.box.two
        have hl2 := I2.box.lt
        have hcell := (Blk.new w2 3 #[.int .i64 (a : Int)]).one
        have IA := I2.up (w' := w2.alloc (.cells #[.int .i64 (a : Int)] 3)) (by go_grown)
        have TA := IA.two
        have e5 : List.map (Value.int .i64) L ++ [.int .i64 (a : Int)] = List.map (Value.int .i64) (L ++ [(a : Int)]) := by rw [List.map_append]; rfl
        have e8 : List.map (Value.int .i64) R ++ [.int .i64 ((a : Int) + 3)] = List.map (Value.int .i64) (R ++ [(a : Int) + 3]) := by rw [List.map_append]; rfl
        have E5 := Lib.hid e5
        have E8 := Lib.hid e8
        clear e5 e8
        go_wp2_with (at_builtin; first
          | (refine wpList_pushA9 rfl (.tmp 23) (.tmp 25) rfl (a : Int) rfl TA ⟨w2.heap.size, 0, none⟩ rfl hcell (by omega) (by simp; omega) ?_; intro A5 c5 w5 T5; have hb5 := IA.box_of T5; have hx5 := hb5.two; have hf5 := hb5.frozen 0; have T5' := T5; rw [E5.out] at T5'; have I6 := IA.pushed (k := 0) (u := .slice A5 (L.length + 1) c5) T5' rfl; clear T5'; have hs6 := I6.gby.size; have hy6 := I6.box.two; have hl6 := I6.box.lt; have hcell6 := cell_lit (w := w5.setCell ⟨gb, 0, none⟩ (.slice A5 (L.length + 1) c5)) (e := 3) (y := .int .i64 ((a : Int) + 3)) (g := w5.heap.size) (by simp); have IB := I6.up (w' := (w5.setCell ⟨gb, 0, none⟩ (.slice A5 (L.length + 1) c5)).alloc (.cells #[.int .i64 ((a : Int) + 3)] 3)) (by go_grown); have TB := IB.two)
          | (refine wpList_pushB9 rfl (.tmp 29) (.tmp 32) rfl ((a : Int) + 3) rfl TB ⟨w5.heap.size, 0, none⟩ rfl hcell6 (by omega) (by simp at hs6 ⊢; omega) ?_; intro C8 c8 w8 T8; have hb8 := IB.box_of T8; have hx8 := hb8.two; have hf8 := hb8.frozen 1))
        rw [E8.out] at T8
        have I8 := IB.pushed (k := 1) (u := .slice C8 (L.length + 1) c8) T8 rfl
        go_wp2
        go_roundw
        case rel => exact ⟨k - 1, A5, c5, L ++ [(a : Int)], C8, c8, R ++ [(a : Int) + 3], by simp; omega, by simp [hRL], by first | go_num | (show Value.int .i64 _ = Value.int .i64 _; congr 1; omega), by rw [show (L ++ [(a : Int)]).length = L.length + 1 by simp]; exact I8⟩
        case measure => simp [intOf]; omega
      · obtain rfl : k = 0 := by omega
        have hy := I.box.two
        have hlb := I.box.lt
        have hL6 : L.length ≤ 6 := by omega
        go_wp2_with fail
        refine (specGraphOfIntervals_any A C L.length L.length ca cc L R wr I.a.ri I.b.ri (by omega) (by omega)).mono ?_
        rintro e w3 ⟨A3, c3, rfl, hO3, hb3⟩
        have hle := goiRows_le6 (L := L) (R := R) hL6
        obtain ⟨N, hN⟩ : ∃ N, N = goiNum L R := ⟨_, rfl⟩
        obtain ⟨X, hX⟩ : ∃ X, X = goiRows L R := ⟨_, rfl⟩
        obtain ⟨bm, hbm⟩ : ∃ bm, bm = isModel L R := ⟨_, rfl⟩
        rw [← hX] at hO3 hle
        rw [← hN, ← hX, ← hbm]
        have hs3 := hb3.size
        have hsw := I.gby.size
        have hU3 : Up w3 (w3.alloc (.cells #[.int .i64 N, .slice A3 X.length c3] 26)) := by go_grown
        have hgrl := I.res.lt
        have J : GX w g B n c bs gr w3.heap.size N A3 X.length c3 X (w3.alloc (.cells #[.int .i64 N, .slice A3 X.length c3] 26)) :=
          ⟨(I.cur.up hb3).up hU3, (I.res.up hb3).up hU3, Blk.new _ _ _, (hO3.more (by omega)).up hU3, gb_up (gb_up I.gby hb3) hU3, hlow, hgr', by omega, by omega⟩
        clear I hO3 hb3 hU3 hN hX hbm hy hlb
        obtain ⟨gc, hgc⟩ : ∃ gc, gc = w3.heap.size := ⟨_, rfl⟩
        rw [← hgc] at J
        have hy := J.box.two
        have hf0 := J.res.frozen 0
        have hf1 := J.res.frozen 1
        have hyr := J.res.two
        obtain ⟨f1, hfin⟩ := J.fin (P := le6L) (.inl hle)
        clear J
        go_wp2_with fail
        rw [← hgc]
        generalize ((w3.alloc (.cells #[.int .i64 N, .slice A3 X.length c3] 26)).setCell ⟨gr, 0, none⟩ (.int .i64 N)).setCell ⟨gr, 1, none⟩ (.slice A3 X.length c3) = Wf at f1 hfin ⊢
        refine bodyPost_ret (v := .agg #[.int .i64 N, .slice A3 X.length c3]) ?_ rfl ?_
        · simp [results, Tryz.results61, go_sem, hfin]
        exact f1
  · go_wp2_with fail
    refine (l11Graph_any hC1).mono ?_
    rintro e w2 ⟨v, rfl, ⟨N, A, m, d, X, rfl, ho, hX⟩, hC2, hg2⟩
    have hR2 := hR1.grown hg2 (fun e => by injection e with e; omega)
    have hG2 := gb_trans hG1 hg2
    have ho2 := ho.more (base' := w.heap.size) (by omega)
    have hyr := hR2.two
    have hf0 := hR2.frozen 0
    have hf1 := hR2.frozen 1
    obtain ⟨f1, hfin⟩ := finG (N := N) (P := le6L) hR2 ho2 hX hC2 hG2 hgr' hlow
    clear hR2 ho2 ho hC2 hG2 hR1 hC1 hg2 hG1
    go_wp2
    generalize (w2.setCell ⟨gr, 0, none⟩ (.int .i64 N)).setCell ⟨gr, 1, none⟩ (.slice A m d) = Wf at f1 hfin ⊢
    refine bodyPost_ret (v := .agg #[.int .i64 N, .slice A m d]) ?_ rfl ?_
    · simp [results, Tryz.results61, go_sem, hfin]
    exact f1
end Go.Proofs.YthncdjcmlpiebaaGreat
namespace Go.Proofs.YthncdjcmlpiebaaGreat
open Go.RowKit
def BothP (P : Int → List Int → Prop) (w : World) (e : Ending) (w' : World) : Prop := ∃ N A m d X A' d' xs, e = .returned (.tuple #[.agg #[.int .i64 N, .slice A m d], .slice A' xs.length d']) ∧ OwnI w' w.heap.size A m d X ∧ P N X ∧ OwnI w' w.heap.size A' xs.length d' xs ∧ xs.length ≤ 127 ∧ Below w.heap.size w w'
end Go.Proofs.YthncdjcmlpiebaaGreat
