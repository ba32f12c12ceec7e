/- The great law of models, plain: the deepest point is a largest clique, stabbing points are as many as independent intervals, proper models give umbrella orders. No program in sight. -/
import Derived.Test.YthncdjcmlpiebaaGreatDoorPureGm
import Derived.Test.YthncdjcmlpiebaaGreatDoorPure9s
import Derived.Test.YthncdjcmlpiebaaGreatDoorW9e
import Derived.Test.YthncdjcmlpiebaaGreatDoorW7A
import Derived.Test.YthncdjcmlpiebaaGreatDoorW12A
import Derived.Test.YthncdjcmlpiebaaGreatDoorW10B
namespace Go.Proofs.YthncdjcmlpiebaaGreatDoor
theorem listOf_ndp (s : Nat) : (listOf s).Nodup := (List.nodup_range).sublist List.filter_sublist
theorem card_mono {s t : Nat} (h : ∀ i, s.testBit i = true → t.testBit i = true) : card s ≤ card t :=
  nodup_sub (listOf_ndp s) fun x hx => mem_listOf.2 ⟨(mem_listOf.1 hx).1, h x (mem_listOf.1 hx).2⟩
theorem card_zero : card 0 = 0 := by decide
theorem bestK_holds {P : Nat → Bool} : ∀ {k : Nat}, bestK P k = 0 ∨ P (bestK P k) = true
  | 0 => .inl rfl
  | k + 1 => by
    rw [bestK]
    split
    · rename_i h; exact .inr h.2
    · exact bestK_holds
theorem card_setN {l : List Nat} (hn : l.Nodup) (h7 : ∀ v ∈ l, v < 7) : l.length ≤ card (setN l) :=
  nodup_sub hn fun v hv => mem_listOf.2 ⟨h7 v hv, by rw [testBit_setN]; exact decide_eq_true hv⟩
/-! The deepest point. -/
theorem deepK_most {L R : List Int} : ∀ {k x : Nat}, x < k → card (pointsCovered L R x) ≤ (deepK L R k).2
  | 0, _, h => by omega
  | k + 1, x, h => by
    by_cases hc : (deepK L R k).2 < card (pointsCovered L R k)
    · rw [deepK_yes hc]
      rcases Nat.lt_succ_iff_lt_or_eq.1 h with h' | rfl
      · have := deepK_most (L := L) (R := R) h'
        show _ ≤ card (pointsCovered L R k)
        omega
      · exact Nat.le_refl _
    · rw [deepK_no hc]
      rcases Nat.lt_succ_iff_lt_or_eq.1 h with h' | rfl
      · exact deepK_most h'
      · omega
theorem deepK_at {L R : List Int} : ∀ k : Nat, deepK L R k = (0, 0) ∨ card (pointsCovered L R (deepK L R k).1) = (deepK L R k).2
  | 0 => .inl rfl
  | k + 1 => by
    by_cases hc : (deepK L R k).2 < card (pointsCovered L R k)
    · rw [deepK_yes hc]; exact .inr rfl
    · rw [deepK_no hc]; exact deepK_at k
section
variable {L R : List Int}
theorem pc_bit (h : isModel L R = true) {x : Int} {i : Nat} : (pointsCovered L R x).testBit i = true ↔ i < L.length ∧ L.getD i 0 ≤ x ∧ x ≤ R.getD i 0 := by
  rw [pointsCovered, if_pos h, testBit_pcK, seesP, Bool.and_eq_true, Bool.and_eq_true, decide_eq_true_eq, decide_eq_true_eq, decide_eq_true_eq]
theorem pc_atP (h : isModel L R = true) (x : Int) : pointsCovered L R x = atP (fun v => L.getD v 0) (fun v => R.getD v 0) L.length x := by
  apply Nat.eq_of_testBit_eq
  intro i
  rw [Bool.eq_iff_iff, pc_bit h, atP_bit]
/-- The deepest point lies in a largest clique's intervals. -/
theorem deep_clique (h : isModel L R = true) : (deepK L R 100).2 = card (bestK (clq (graphRows L R)) (2 ^ L.length - 1)) := by
  have hg := graphRows_ok h
  have hi := graphRows_iv h
  obtain ⟨h1, h7, hl, hm⟩ := isModel_spec h
  refine Nat.le_antisymm ?_ ?_
  · rcases deepK_at (L := L) (R := R) 100 with h0 | h0
    · rw [h0]; exact Nat.zero_le _
    · rw [← h0, pc_atP h]
      obtain ⟨s, hs⟩ : ∃ s, s = atP (fun v => L.getD v 0) (fun v => R.getD v 0) L.length ((deepK L R 100).1 : Int) := ⟨_, rfl⟩
      have hlt : s < 2 ^ L.length := by rw [hs]; exact atP_lt
      have hc : clq (graphRows L R) s = true := by rw [hs]; exact hi.clq hg _
      rw [← hs]
      rcases Nat.eq_zero_or_pos s with rfl | hp
      · rw [card_zero]; exact Nat.zero_le _
      · exact bestK_top (by omega) hp hc
  · obtain ⟨s, hs⟩ : ∃ s, s = bestK (clq (graphRows L R)) (2 ^ L.length - 1) := ⟨_, rfl⟩
    have hle := bestK_le (clq (graphRows L R)) (2 ^ L.length - 1)
    have hh := bestK_holds (P := clq (graphRows L R)) (k := 2 ^ L.length - 1)
    rw [← hs] at hle hh ⊢
    rcases Nat.eq_zero_or_pos s with rfl | hp
    · rw [card_zero]; exact Nat.zero_le _
    · have hc := hh.resolve_left (by omega)
      obtain ⟨u, hu, _, hall⟩ := hi.point hg (by have := Nat.two_pow_pos L.length; omega) (by omega) hc
      have hmu := mOk_iff.1 (hm u hu)
      obtain ⟨x, hx⟩ : ∃ x : Nat, L.getD u 0 = (x : Int) := ⟨(L.getD u 0).toNat, by omega⟩
      refine Nat.le_trans (card_mono (t := pointsCovered L R x) fun i hi' => ?_) (deepK_most (by omega))
      rw [pc_bit h, ← hx]
      exact ⟨bit_lt (by have := Nat.two_pow_pos L.length; omega) hi', hall i hi'⟩
/-- The deepest point lies in as many intervals as told. -/
theorem deep_covers (h : isModel L R = true) : ((card (pointsCovered L R (deepPair L R).1) : Nat) : Int) = (deepPair L R).2 := by
  obtain ⟨h1, h7, hl, hm⟩ := isModel_spec h
  rw [deep_yes h]
  rcases deepK_at (L := L) (R := R) 100 with h0 | h0
  · exfalso
    have hm0 := mOk_iff.1 (hm 0 (by omega))
    obtain ⟨x, hx⟩ : ∃ x : Nat, L.getD 0 0 = (x : Int) := ⟨(L.getD 0 0).toNat, by omega⟩
    have h2 := deepK_most (L := L) (R := R) (k := 100) (x := x) (by omega)
    rw [h0] at h2
    have h3 : (pointsCovered L R x).testBit 0 = true := (pc_bit h).2 ⟨by omega, by omega, by omega⟩
    have h4 : 0 ∈ listOf (pointsCovered L R x) := mem_listOf.2 ⟨by omega, h3⟩
    have := List.length_pos_of_mem h4
    have h5 : card (pointsCovered L R x) ≤ 0 := h2
    unfold card at h5
    omega
  · show ((card (pointsCovered L R ((deepK L R 100).1 : Int)) : Nat) : Int) = ((deepK L R 100).2 : Int)
    rw [h0]
/-! Stabbing points. -/
theorem nxtK_least {p : List Int} : ∀ {k v : Nat}, v < k → sees L R p v = false → nxtK L R p k ≤ R.getD v 0
  | 0, _, h, _ => by omega
  | k + 1, v, h, hs => by
    rw [nxtK]
    rcases Nat.lt_succ_iff_lt_or_eq.1 h with h' | rfl
    · have := nxtK_least h' hs
      split
      · exact this
      · omega
    · rw [hs]
      simp only [Bool.false_eq_true, if_false]
      omega
/-- So many intervals apart from each other as there are points. -/
def Apart (L R : List Int) (n : Nat) (p : List Int) : Prop :=
  ∃ vs : List Nat, vs.length = p.length ∧ (∀ u ∈ vs, u < n) ∧ vs.Pairwise (fun u v => R.getD u 0 < L.getD v 0) ∧ ∀ v, v < n → sees L R p v = false → ∀ u ∈ vs, R.getD u 0 < L.getD v 0
theorem Apart.next {n : Nat} {p : List Int} (hm : ∀ j, j < n → 0 ≤ L.getD j 0 ∧ L.getD j 0 ≤ R.getD j 0 ∧ R.getD j 0 ≤ 99) (h : Apart L R n p) (h0 : unc L R p n ≠ 0) : Apart L R n (p ++ [nxtK L R p n]) := by
  obtain ⟨vs, h1, h2, h3, h4⟩ := h
  rcases nxtK_cases (L := L) (R := R) (p := p) (n := n) (fun j hj => by have := hm j hj; omega) n (Nat.le_refl _) with ⟨_, k2⟩ | ⟨i, k1, k2, k3⟩
  · exact absurd (unc_zero.2 k2) h0
  · refine ⟨vs ++ [i], by simp [h1], fun u hu => ?_, ?_, fun v hv hs u hu => ?_⟩
    · rcases List.mem_append.1 hu with hu | hu
      · exact h2 u hu
      · obtain rfl : u = i := by simpa using hu
        exact k1
    · rw [List.pairwise_append]
      exact ⟨h3, by simp, fun u hu v hv => by
        obtain rfl : v = i := by simpa using hv
        exact h4 v k1 k2 u hu⟩
    · rw [sees_snoc, Bool.or_eq_false_iff] at hs
      rcases List.mem_append.1 hu with hu | hu
      · exact h4 v hv hs.1 u hu
      · obtain rfl : u = i := by simpa using hu
        have hle := nxtK_least hv hs.1
        have hs2 := hs.2
        rw [seesP, Bool.and_eq_false_iff, decide_eq_false_iff_not, decide_eq_false_iff_not] at hs2
        rw [← k3]
        omega
theorem stabR_apart {n : Nat} (hm : ∀ j, j < n → 0 ≤ L.getD j 0 ∧ L.getD j 0 ≤ R.getD j 0 ∧ R.getD j 0 ≤ 99) : ∀ (f : Nat) (p : List Int), unc L R p n ≤ f → Apart L R n p → Apart L R n (stabR L R n f p) ∧ unc L R (stabR L R n f p) n = 0
  | 0, p, hf, h => by rw [stabR]; exact ⟨h, by omega⟩
  | f + 1, p, hf, h => by
    rw [stabR]
    by_cases h0 : unc L R p n = 0
    · rw [if_pos h0]; exact ⟨h, h0⟩
    · rw [if_neg h0]
      exact stabR_apart hm f _ (by have := (unc_less hm h0).2; omega) (h.next hm h0)
/-- Stabbing points are as many as independent intervals. -/
theorem stab_indep (h : isModel L R = true) : (stabOf L R).length = card (bestK (indep (graphRows L R)) (2 ^ L.length - 1)) := by
  have hg := graphRows_ok h
  have hi := graphRows_iv h
  obtain ⟨h1, h7, hl, hm0⟩ := isModel_spec h
  have hm : ∀ j, j < L.length → 0 ≤ L.getD j 0 ∧ L.getD j 0 ≤ R.getD j 0 ∧ R.getD j 0 ≤ 99 := fun j hj => mOk_iff.1 (hm0 j hj)
  obtain ⟨⟨vs, v1, v2, v3, _⟩, hu⟩ := stabR_apart hm 127 [] (by rw [unc_nil]; exact full_lt h7) ⟨[], rfl, by simp, List.Pairwise.nil, by simp⟩
  rw [unc_zero] at hu
  have hp : stabOf L R = stabR L R L.length 127 [] := by rw [stabOf, if_pos h]
  rw [← hp] at v1 hu
  rw [← v1]
  have far : ∀ u ∈ vs, ∀ v ∈ vs, u ≠ v → R.getD u 0 < L.getD v 0 ∨ R.getD v 0 < L.getD u 0 := fun u hu v hv hne => by
    obtain ⟨i, hi', rfl⟩ := List.mem_iff_getElem.1 hu
    obtain ⟨j, hj, rfl⟩ := List.mem_iff_getElem.1 hv
    have hpw := List.pairwise_iff_getElem.1 v3
    rcases Nat.lt_trichotomy i j with e | rfl | e
    · exact .inl (hpw i j hi' hj e)
    · exact absurd rfl hne
    · exact .inr (hpw j i hj hi' e)
  have hnd : vs.Nodup := by
    refine v3.imp_of_mem fun {u v} hu' _ huv e => ?_
    subst e
    have := hm u (v2 u hu')
    omega
  refine Nat.le_antisymm ?_ ?_
  · refine Nat.le_trans (card_setN hnd fun v hv => by have := v2 v hv; omega) ?_
    rcases Nat.eq_zero_or_pos (setN vs) with h0 | h0
    · rw [h0, card_zero]; exact Nat.zero_le _
    · refine bestK_top (by have := setN_lt (n := L.length) v2; omega) h0 (indep_iff.2 fun v hv hs => ?_)
      apply Nat.eq_of_testBit_eq
      intro u
      rw [Nat.zero_testBit, Nat.testBit_and, testBit_setN]
      rw [testBit_setN, decide_eq_true_eq] at hs
      rcases Bool.eq_false_or_eq_true ((nb (graphRows L R) v).testBit u) with e | e
      · rw [e, Bool.true_and]
        refine decide_eq_false fun hu' => ?_
        have hne : v ≠ u := fun k => by
          subst k
          have := edge_irr hg v
          rw [edge, e] at this; cases this
        have := (hi.adj v u (v2 v hs) (v2 u hu') hne).1 e
        have := far v hs u hu' hne
        omega
      · rw [e]; rfl
  · rw [v1]
    obtain ⟨s, hs⟩ : ∃ s, s = bestK (indep (graphRows L R)) (2 ^ L.length - 1) := ⟨_, rfl⟩
    have hle := bestK_le (indep (graphRows L R)) (2 ^ L.length - 1)
    have hh := bestK_holds (P := indep (graphRows L R)) (k := 2 ^ L.length - 1)
    rw [← hs] at hle hh ⊢
    rcases Nat.eq_zero_or_pos s with rfl | hp0
    · rw [card_zero]; exact Nat.zero_le _
    · have hc := indep_iff.1 (hh.resolve_left (by omega))
      have hlt : s < 2 ^ L.length := by have := Nat.two_pow_pos L.length; omega
      have at_ : ∀ v, ∃ j, v < L.length → j < (stabOf L R).length ∧ L.getD v 0 ≤ (stabOf L R).getD j 0 ∧ (stabOf L R).getD j 0 ≤ R.getD v 0 := fun v => by
        by_cases hv : v < L.length
        · have := hu v hv
          rw [sees, List.any_eq_true] at this
          obtain ⟨x, hx, hsx⟩ := this
          obtain ⟨j, hj, rfl⟩ := List.mem_iff_getElem.1 hx
          rw [seesP, Bool.and_eq_true, decide_eq_true_eq, decide_eq_true_eq] at hsx
          exact ⟨j, fun _ => ⟨hj, by simpa [List.getD, List.getElem?_eq_getElem hj] using hsx.1, by simpa [List.getD, List.getElem?_eq_getElem hj] using hsx.2⟩⟩
        · exact ⟨0, fun k => absurd k hv⟩
      obtain ⟨f, hf⟩ : ∃ f : Nat → Nat, ∀ v, v < L.length → f v < (stabOf L R).length ∧ L.getD v 0 ≤ (stabOf L R).getD (f v) 0 ∧ (stabOf L R).getD (f v) 0 ≤ R.getD v 0 := ⟨fun v => Classical.choose (at_ v), fun v => Classical.choose_spec (at_ v)⟩
      have hmem : ∀ v, v ∈ listOf s → v < L.length ∧ s.testBit v = true := fun v hv => ⟨bit_lt hlt (mem_listOf.1 hv).2, (mem_listOf.1 hv).2⟩
      have := nodup_sub (l := (listOf s).map f) (m := List.range (stabOf L R).length) (by
        rw [List.Nodup, List.pairwise_map]
        refine (listOf_ndp s).imp_of_mem fun {u v} hu' hv' hne e => ?_
        obtain ⟨u1, u2⟩ := hmem u hu'
        obtain ⟨w1, w2⟩ := hmem v hv'
        have a1 := hf u u1
        have a2 := hf v w1
        rw [e] at a1
        have he := (hi.adj u v u1 w1 hne).2 ⟨by omega, by omega⟩
        have h0 := congrArg (fun x => x.testBit v) (hc u (by omega) u2)
        simp only [Nat.testBit_and, Nat.zero_testBit] at h0
        rw [edge] at he
        rw [he, w2] at h0
        cases h0) (fun x hx => by
        obtain ⟨v, hv, rfl⟩ := List.mem_map.1 hx
        exact List.mem_range.2 (hf v (hmem v hv).1).1)
      rw [List.length_map, List.length_range] at this
      exact this
/-- A proper model's graph has an umbrella order. -/
theorem proper_umb (h : isProperModel L R = true) : (umbOf L.length (ints (graphRows L R))).isSome = true := by
  have h0 : isModel L R = true := by
    rcases Bool.eq_false_or_eq_true (isModel L R) with e | e
    · exact e
    · rw [isProperModel_no e] at h; cases h
  have hg := graphRows_ok h0
  have hi := graphRows_iv h0
  have hp : ∀ i, i < L.length → ∀ k, k < L.length → i ≠ k → L.getD i 0 ≤ L.getD k 0 → R.getD i 0 < R.getD k 0 := fun i hi' k hk hne hle => by
    rcases Int.lt_or_le (R.getD i 0) (R.getD k 0) with e | e
    · exact e
    · rw [isProperModel_false hi' hk ⟨hne, hle, e⟩] at h; cases h
  obtain ⟨t, ht⟩ : ∃ t, t = (List.range L.length).mergeSort fun s t => decide (L.getD s 0 ≤ L.getD t 0) := ⟨_, rfl⟩
  have h1 : t.Perm (List.range L.length) := by rw [ht]; exact List.mergeSort_perm _ _
  have h2 : t.Pairwise fun s t => L.getD s 0 ≤ L.getD t 0 := by
    rw [ht]
    have := List.pairwise_mergeSort (le := fun s t => decide (L.getD s 0 ≤ L.getD t 0)) (fun a b c h1 h2 => by simp only [decide_eq_true_eq] at *; omega) (fun a b => by simp only [Bool.or_eq_true, decide_eq_true_eq]; omega) (List.range L.length)
    exact this.imp fun h => by simpa using h
  have h3 : t.Nodup := h1.nodup_iff.2 List.nodup_range
  have h4 : ∀ v ∈ t, v < L.length := fun v hv => List.mem_range.1 (h1.mem_iff.1 hv)
  have h5 : t.length = L.length := by rw [h1.length_eq, List.length_range]
  have hv : natVerts L.length t := ⟨h4, h3⟩
  have hsort : ∀ i j, i < j → j < t.length → L.getD (nb t i) 0 ≤ L.getD (nb t j) 0 := fun i j hij hj => by
    have e : ∀ x, (hx : x < t.length) → nb t x = t[x] := fun x hx => by simp [nb, List.getD, List.getElem?_eq_getElem hx]
    rw [e i (by omega), e j hj]
    exact List.pairwise_iff_getElem.1 h2 i j (by omega) hj hij
  have hur : umbOf L.length (ints (graphRows L R)) = srch (umb (graphRows L R)) yes L.length L.length [] := umbOf_ok hg
  rw [hur]
  have := srch_found (may := umb (graphRows L R)) (holds := yes) (N := L.length) (f := L.length) (l := []) (t := t) h5 (by simpa using h3) h4 (fun k hk0 hk => by
    rw [List.nil_append]
    refine umb_true fun i hi' k' hk' j hij hjk => ?_
    have hk2 : k' < k := by simp at hk'; omega
    have hn : ∀ y, y < k → nb (t.take k) y = nb t y := fun y hy => by simp [nb, List.getD, hy]
    rcases Bool.eq_false_or_eq_true (edge (graphRows L R) (nb (t.take k) i) (nb (t.take k) k')) with e | e
    · rw [umbAt_on e]
      rw [hn i (by omega), hn k' hk2] at e ⊢
      rw [hn j (by omega)]
      have d1 := hv.at_ (j := i) (by omega)
      have d2 := hv.at_ (j := j) (by omega)
      have d3 := hv.at_ (j := k') (by omega)
      have n1 : nb t i ≠ nb t j := fun e => by have := hv.inj (by omega) (by omega) e; omega
      have n2 : nb t j ≠ nb t k' := fun e => by have := hv.inj (by omega) (by omega) e; omega
      have n3 : nb t i ≠ nb t k' := fun e => by have := hv.inj (by omega) (by omega) e; omega
      have s1 := hsort i j hij (by omega)
      have s2 := hsort j k' hjk (by omega)
      have r1 := hp _ d1 _ d2 n1 s1
      have r2 := hp _ d2 _ d3 n2 s2
      have a1 := (hi.adj _ _ d1 d3 n3).1 e
      have a2 := hi.le _ d1
      have a3 := hi.le _ d2
      have a4 := hi.le _ d3
      have b1 := (hi.adj _ _ d1 d2 n1).2 ⟨by omega, by omega⟩
      have b2 := (hi.adj _ _ d3 d2 (Ne.symm n2)).2 ⟨by omega, by omega⟩
      rw [b1, b2]; rfl
    · exact umbAt_off e) rfl
  exact Option.isSome_iff_ne_none.2 this
/-- A model's graph is an interval graph. -/
theorem model_interval (h : isModel L R = true) : (ordOf L.length (ints (graphRows L R))).isSome = true := by
  have hg := graphRows_ok h
  have hi := graphRows_iv h
  have hc : (elimOf L.length (ints (graphRows L R))).isSome = true := by
    rw [chordal_iff, hg.is, Bool.true_and]
    rcases ho : holeOf L.length (ints (graphRows L R)) with _ | r
    · rfl
    · exact (hi.no_hole hg (holeOf_some hg ho)).elim
  have := hi.orders hg
  rw [ordOf, cliqOrds_yes hc, maxCliquesOf_ok hg]
  rcases ho : ords (maxCliques (graphRows L R) L.length) (maxCliques (graphRows L R) L.length).length [] with _ | ⟨x, xs⟩
  · exact absurd ho this
  · rfl
end
end Go.Proofs.YthncdjcmlpiebaaGreatDoor
