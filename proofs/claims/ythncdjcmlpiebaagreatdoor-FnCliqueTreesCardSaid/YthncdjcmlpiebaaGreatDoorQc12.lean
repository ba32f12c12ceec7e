/- The great law of clique trees, plain, fourth part: minimal separators are what bags have in common with their parents. No program in sight. append onto a row of the call's own, the new row's block said; two such appends in one region that draws. Walks of chapter 10: sets that follow one another. Walks of chapter 10: the reference's search for orders of cliques. The library's contracts for slices.Sort, slices.Compact and slices.Clone, laid at this seat's translation (written by the kit's tools lay-shelf and lay-plain for this seat; other seats have other numbers). Sorting, plain: the reference's insertion, the library's sort; lists without repeats. No program in sight. Sorting: the library's Sort and Compact on rows of the call's own, sorted (the program's), l8Sorted (the reference's). -/
import Derived.Test.YthncdjcmlpiebaaGreatDoorProg
import Derived.Test.YthncdjcmlpiebaaGreatDoorQc01
import Derived.Test.YthncdjcmlpiebaaGreatDoorQc03
import Derived.Test.YthncdjcmlpiebaaGreatDoorQc04
import Derived.Test.YthncdjcmlpiebaaGreatDoorQc06
import Derived.Test.YthncdjcmlpiebaaGreatDoorQc07
import Derived.Test.YthncdjcmlpiebaaGreatDoorQc10
import Derived.Test.YthncdjcmlpiebaaGreatDoorQc11
import Derived.Deep.LoopGhost
import Derived.Deep.RegionLaw
import Derived.Lib.SlicesCompact
import Derived.Shelf.Lays
import Derived.Shelf.Lays2
import Derived.Shelf.Slices.Clone
import Derived.Shelf.Slices.CompactI
import Derived.Shelf.Slices.In.SortNone
import Derived.Shelf.Sort.Plain
import Derived.Sort.OwnSortedInts
namespace Go.Proofs.YthncdjcmlpiebaaGreatDoor
theorem closed_step {n : Nat} {Q : List Nat} {S Z : Nat} (_h : GOk n Q) (_hS : S < 2 ^ n) (hc : closed Q S Z) : step Q S Z = Z := by
  apply Nat.eq_of_testBit_eq
  intro i
  rw [testBit_step]
  rcases Bool.eq_false_or_eq_true (Z.testBit i) with e | e
  · rw [e, hc.1 i e]; rfl
  · rw [e, Bool.false_or]
    rcases Bool.eq_false_or_eq_true (S.testBit i) with es | es
    · rw [es, Bool.and_true]
      rw [← Bool.not_eq_true]
      intro k
      obtain ⟨v, _, hv, hb⟩ := testBit_nbrs.1 k
      rw [hc.2 v i hv hb es] at e; cases e
    · rw [es, Bool.and_false]
theorem step_closed' {n : Nat} {Q : List Nat} {S p : Nat} (_h : GOk n Q) (hS7 : S < 128) (hp : step Q S p = p) (hs : sub p S) : closed Q S p := by
  refine ⟨hs, fun y z hy hb hz => ?_⟩
  have : (step Q S p).testBit z = true := by
    rw [testBit_step, hz, testBit_nbrs.2 ⟨y, bit_lt (k := 7) hS7 (hs y hy), hy, hb⟩, Bool.or_true]; rfl
  rw [hp] at this; exact this
def PartOf (Q : List Nat) (S p : Nat) : Prop := (∃ u, p.testBit u = true) ∧ closed Q S p ∧ ∀ Z, closed Q S Z → (∃ v, p.testBit v = true ∧ Z.testBit v = true) → sub p Z
theorem partsK_facts {n : Nat} {Q : List Nat} {S : Nat} (h : GOk n Q) (hS : S < 2 ^ n) : ∀ f L, closed Q S L → L ≤ f →
    (∀ p ∈ partsK Q n S f L, sub p L ∧ PartOf Q S p) ∧ (∀ v, L.testBit v = true → ∃ p ∈ partsK Q n S f L, p.testBit v = true) ∧ (partsK Q n S f L).Nodup
  | 0, L, hc, hf => by
    obtain rfl : L = 0 := by omega
    exact ⟨fun p hp => (by cases hp), fun v hv => (by rw [Nat.zero_testBit] at hv; cases hv), List.nodup_nil⟩
  | f + 1, L, hc, hf => by
    have hS7 : S < 128 := Nat.lt_of_lt_of_le hS (Nat.pow_le_pow_right (n := 2) (by omega) h.le)
    by_cases h0 : L = 0
    · subst h0
      rw [partsK, if_pos rfl]
      exact ⟨fun p hp => (by cases hp), fun v hv => (by rw [Nat.zero_testBit] at hv; cases hv), List.nodup_nil⟩
    · rw [partsK, if_neg h0]
      have hL7 : L < 128 := Nat.lt_of_le_of_lt (sub_le hc.1) hS7
      have hxL := low_sub hL7 h0
      have hxS := sub_trans hxL hc.1
      obtain ⟨u, hu⟩ : ∃ u, low L = 2 ^ u := ⟨_, rfl⟩
      have hux : (low L).testBit u = true := by rw [hu, Nat.testBit_two_pow]; simp
      have hxu : ∀ i, (low L).testBit i = true → i = u := fun i hi => by rw [hu, Nat.testBit_two_pow] at hi; exact (of_decide_eq_true hi).symm
      have hfix := part_fixed (Q := Q) h.le hS hxS (low_ne L)
      have hin : ∀ Z, closed Q S Z → sub (low L) Z → sub (part Q n S (low L)) Z := fun Z hZ hx => by
        have := grow_closed hZ hx n
        rw [part, ← this]
        exact grow_sub hx n
      obtain ⟨p0, hp0⟩ : ∃ p0, p0 = part Q n S (low L) := ⟨_, rfl⟩
      have hlt := dif_part_lt (n := n) hc hS7 h0
      rw [← hp0] at hfix hin hlt ⊢
      have hup : p0.testBit u = true := by rw [hp0]; exact grow_from hxS n u hux
      have hpS : sub p0 S := hin S (closed_all Q S) hxS
      have hpc := step_closed' h hS7 hfix hpS
      have hpL : sub p0 L := hin L hc hxL
      have hpart : PartOf Q S p0 := by
        refine ⟨⟨u, hup⟩, hpc, fun Z hZ ⟨v, hv, hvZ⟩ => ?_⟩
        rcases Bool.eq_false_or_eq_true (Z.testBit u) with e | e
        · exact hin Z hZ fun i hi => by rw [hxu i hi]; exact e
        · exfalso
          have hZ' := closed_dif h hS7 (closed_all Q S) (closed_step h hS hZ)
          have := hin _ hZ' (fun i hi => by
            rw [hxu i hi, testBit_dif, e, hpS u hup]; rfl) v hv
          rw [testBit_dif, hvZ, Bool.and_eq_true] at this
          cases this.2
      obtain ⟨i1, i2, i3⟩ := partsK_facts h hS f (dif L p0) (closed_dif h hS7 hc hfix) (by omega)
      have hdis : ∀ p ∈ partsK Q n S f (dif L p0), ∀ v, p.testBit v = true → L.testBit v = true ∧ p0.testBit v = false := fun p hp v hv => by
        have := (i1 p hp).1 v hv
        rw [testBit_dif, Bool.and_eq_true, Bool.not_eq_true'] at this
        exact this
      refine ⟨fun p hp => ?_, fun v hv => ?_, ?_⟩
      · rcases List.mem_cons.1 hp with rfl | hp
        · exact ⟨hpL, hpart⟩
        · exact ⟨fun v hv => (hdis p hp v hv).1, (i1 p hp).2⟩
      · rcases Bool.eq_false_or_eq_true (p0.testBit v) with e | e
        · exact ⟨p0, List.mem_cons_self .., e⟩
        · obtain ⟨p, hp, hpv⟩ := i2 v (by rw [testBit_dif, hv, e]; rfl)
          exact ⟨p, List.mem_cons_of_mem _ hp, hpv⟩
      · refine List.nodup_cons.2 ⟨fun hm => ?_, i3⟩
        have := (hdis p0 hm u hup).2
        rw [hup] at this; cases this
theorem sees_iff {Q : List Nat} {s p : Nat} : sees Q s p = true ↔ ∀ i, s.testBit i = true → ∃ v, v < 7 ∧ p.testBit v = true ∧ edge Q v i = true := by
  rw [sees, beq_iff_eq]
  constructor
  · intro e i hi
    have := congrArg (fun x => x.testBit i) e
    simp only [testBit_dif, hi, Nat.zero_testBit, Bool.true_and, Bool.not_eq_false'] at this
    exact testBit_nbrs.1 this
  · intro hh
    apply Nat.eq_of_testBit_eq
    intro i
    rw [testBit_dif, Nat.zero_testBit]
    rcases Bool.eq_false_or_eq_true (s.testBit i) with e | e
    · rw [e, testBit_nbrs.2 (hh i e)]; rfl
    · rw [e]; rfl
theorem rest_bit {n s i : Nat} : (restOf n s).testBit i = true ↔ i < n ∧ s.testBit i = false := by
  rw [restOf, testBit_dif, full_bit, Bool.and_eq_true, decide_eq_true_eq, Bool.not_eq_true']
/-- A minimal separator: two parts see all of it. -/
theorem minSep_iff {n : Nat} {Q : List Nat} (h : GOk n Q) {s : Nat} : minSep Q n s = true ↔ ∃ p q, p ≠ q ∧ (p ∈ partsOf Q n (restOf n s) ∧ sees Q s p = true) ∧ (q ∈ partsOf Q n (restOf n s) ∧ sees Q s q = true) := by
  obtain ⟨_, _, hnd⟩ := partsK_facts h (rest_lt (n := n) (s := s)) (restOf n s) (restOf n s) (closed_all Q _) (Nat.le_refl _)
  have hnd' : ((partsOf Q n (restOf n s)).filter fun p => sees Q s p).Nodup := List.Nodup.sublist List.filter_sublist hnd
  rw [minSep, decide_eq_true_eq, full]
  obtain ⟨l, hl⟩ : ∃ l, l = (partsOf Q n (restOf n s)).filter fun p => sees Q s p := ⟨_, rfl⟩
  have hm : ∀ p, p ∈ l ↔ p ∈ partsOf Q n (restOf n s) ∧ sees Q s p = true := fun p => by rw [hl, List.mem_filter]
  rw [← hl] at hnd' ⊢
  constructor
  · intro h2
    match l, h2, hnd', hm with
    | p :: q :: t, _, hnd', hm =>
      refine ⟨p, q, fun e => ?_, (hm p).1 (by simp), (hm q).1 (by simp)⟩
      subst e
      exact (List.nodup_cons.1 hnd').1 (List.mem_cons_self ..)
  · rintro ⟨p, q, hne, hp, hq⟩
    have := nodup_sub (l := [p, q]) (m := l) (by simp [hne]) fun x hx => by
      rcases List.mem_cons.1 hx with rfl | hx
      · exact (hm _).2 hp
      · obtain rfl : x = q := by simpa using hx
        exact (hm _).2 hq
    exact this
section
variable {n : Nat} {Q b : List Nat} {P : List Int}
theorem CT.not_in (C : CT n Q b P) (h : GOk n Q) {i j : Nat} (hi : i < b.length) (hj : j < b.length) (hij : i ≠ j) : ∃ v, (nb b i).testBit v = true ∧ (nb b j).testBit v = false := by
  refine Classical.byContradiction fun hno => ?_
  have hb := C.bag hi
  have hc := C.bag hj
  have hsub : ∀ v, (nb b i).testBit v = true → (nb b j).testBit v = true := fun v hv => by
    rcases Bool.eq_false_or_eq_true ((nb b j).testBit v) with e | e
    · exact e
    · exact absurd ⟨v, hv, e⟩ hno
  have e := maxi_top h hb.2.1 hc.2.2 hc.1 hsub
  have hnd : b.Nodup := C.perm.nodup_iff.2 (maxK_nodup Q n _)
  have e1 : ∀ x, (hx : x < b.length) → nb b x = b[x] := fun x hx => by simp [nb, List.getD, List.getElem?_eq_getElem hx]
  rw [e1 i hi, e1 j hj] at e
  have hp := List.pairwise_iff_getElem.1 hnd
  rcases Nat.lt_trichotomy i j with h' | h' | h'
  · exact hp i j hi hj h' e
  · exact hij h'
  · exact hp j i hj hi h' e.symm
/-- What a bag has in common with its parent is a minimal separator. -/
theorem CT.sep_min (C : CT n Q b P) (h : GOk n Q) {i : Nat} (h0 : 0 < i) (hi : i < b.length) : minSep Q n (nb b i &&& nb b (par P i)) = true := by
  have h7 := h.le
  have hpl := C.rip.par_lt h0 hi
  have hpb : par P i < b.length := by omega
  obtain ⟨s, hs⟩ : ∃ s, s = nb b i &&& nb b (par P i) := ⟨_, rfl⟩
  have hsb : ∀ v, s.testBit v = true ↔ (nb b i).testBit v = true ∧ (nb b (par P i)).testBit v = true := fun v => by rw [hs, Nat.testBit_and, Bool.and_eq_true]
  rw [← hs]
  obtain ⟨hbn, _, hbc⟩ := C.bag hi
  obtain ⟨hpn, _, hpc⟩ := C.bag hpb
  obtain ⟨x, hx1, hx2⟩ := C.not_in h hi hpb (by omega)
  obtain ⟨y, hy1, hy2⟩ := C.not_in h hpb hi (by omega)
  have hxn := bit_lt hbn hx1
  have hyn := bit_lt hpn hy1
  have hxs : s.testBit x = false := by rw [← Bool.not_eq_true, hsb, hx2]; exact fun k => Bool.false_ne_true k.2
  have hys : s.testBit y = false := by rw [← Bool.not_eq_true, hsb, hy2]; exact fun k => Bool.false_ne_true k.1
  obtain ⟨f1, f2, f3⟩ := partsK_facts h (rest_lt (n := n) (s := s)) (restOf n s) (restOf n s) (closed_all Q _) (Nat.le_refl _)
  obtain ⟨p, hp, hpx⟩ := f2 x (rest_bit.2 ⟨hxn, hxs⟩)
  obtain ⟨q, hq, hqy⟩ := f2 y (rest_bit.2 ⟨hyn, hys⟩)
  -- the vertices below the bag
  obtain ⟨D, hD⟩ : ∃ D : Nat, ∀ v, D.testBit v = true ↔ v < n ∧ s.testBit v = false ∧ ∃ t, TopAt b v t ∧ Desc P i t := by
    classical
    refine ⟨setN ((List.range n).filter fun v => decide (s.testBit v = false ∧ ∃ t, TopAt b v t ∧ Desc P i t)), fun v => ?_⟩
    rw [testBit_setN, decide_eq_true_eq, List.mem_filter, List.mem_range, decide_eq_true_eq]
  have hDc : closed Q (restOf n s) D := by
    refine ⟨fun v hv => rest_bit.2 ⟨((hD v).1 hv).1, ((hD v).1 hv).2.1⟩, fun u v hu hb hv => ?_⟩
    obtain ⟨hvn, hvs⟩ := rest_bit.1 hv
    obtain ⟨hun, _, t, ht, hd⟩ := (hD u).1 hu
    obtain ⟨t', ht'⟩ := C.top h hvn
    refine (hD v).2 ⟨hvn, hvs, t', ht', Classical.byContradiction fun hn => ?_⟩
    obtain ⟨j, hj, j1, j2⟩ := C.share h hun hvn (.inr hb)
    have := C.leave ht ht' hj j1 j2 hd hn
    rw [(hsb v).2 ⟨this.1, this.2.1⟩] at hvs; cases hvs
  have hxD : D.testBit x = true := by
    obtain ⟨t, ht⟩ := C.top h hxn
    refine (hD x).2 ⟨hxn, hxs, t, ht, ?_⟩
    have h1 := ht.le hx1
    rcases Nat.lt_or_ge t i with h' | h'
    · have := C.rip.pull h' hi hx1 ht.2.1
      rw [hx2] at this; cases this
    · obtain rfl : t = i := by omega
      exact Desc.refl t
  have hyD : D.testBit y = false := by
    rw [← Bool.not_eq_true, hD]
    rintro ⟨_, _, t, ht, hd⟩
    have h1 := ht.le hy1
    have h2 := C.desc_le ht.1 hd
    omega
  have hpD : sub p D := (f1 p hp).2.2.2 D hDc ⟨x, hpx, hxD⟩
  have full : ∀ (z j : Nat) (r : Nat), j < b.length → (nb b j).testBit z = true → s.testBit z = false → r.testBit z = true → (∀ v, s.testBit v = true → (nb b j).testBit v = true) → sees Q s r = true := fun z j r hj hz hzs hr hall => by
    obtain ⟨hjn, _, hjc⟩ := C.bag hj
    refine sees_iff.2 fun v hv => ⟨z, by have := bit_lt hjn hz; omega, hr, (clq_pairs h).1 hjc z (by have := bit_lt hjn hz; omega) hz v (hall v hv) fun e => ?_⟩
    rw [e, hzs] at hv; cases hv
  refine (minSep_iff h).2 ⟨p, q, fun e => ?_, ⟨hp, full x i p hi hx1 hxs hpx fun v hv => ((hsb v).1 hv).1⟩, ⟨hq, full y (par P i) q hpb hy1 hys hqy fun v hv => ((hsb v).1 hv).2⟩⟩
  rw [← e] at hqy
  have := hpD y hqy
  rw [hyD] at this; cases this
/-- Two parts and a bag: it meets one of them at most. -/
theorem CT.one_part (C : CT n Q b P) (h : GOk n Q) {R X Y : Nat} (hX : PartOf Q R X) (hY : PartOf Q R Y) (hdis : ∀ v, X.testBit v = true → Y.testBit v = true → False) {j x y : Nat} (hj : j < b.length) (hx : (nb b j).testBit x = true) (hy : (nb b j).testBit y = true) (hxX : X.testBit x = true) (hyY : Y.testBit y = true) : False := by
  obtain ⟨hjn, _, hjc⟩ := C.bag hj
  have hne : y ≠ x := fun e => hdis x hxX (by rw [← e]; exact hyY)
  have he := (clq_pairs h).1 hjc x (by have := bit_lt hjn hx; have := h.le; omega) hx y hy hne
  exact hdis y (hX.2.1.2 x y hxX he (hY.2.1.1 y hyY)) hyY
theorem CT.min_core (C : CT n Q b P) (h : GOk n Q) {s X Y i tY : Nat} (hs : s < 2 ^ n) (hX : PartOf Q (restOf n s) X) (hY : PartOf Q (restOf n s) Y) (hdis : ∀ v, X.testBit v = true → Y.testBit v = true → False) (sX : sees Q s X = true) (sY : sees Q s Y = true)
    (hi : i < b.length) {x0 y0 : Nat} (hx0 : X.testBit x0 = true) (hxi : (nb b i).testBit x0 = true) (hXl : ∀ j, j < i → ∀ x, X.testBit x = true → (nb b j).testBit x = false)
    (hy0 : Y.testBit y0 = true) (hyi : (nb b tY).testBit y0 = true) (hYl : ∀ j, j < tY → ∀ y, Y.testBit y = true → (nb b j).testBit y = false) (hlt : tY < i) : 0 < i ∧ s = nb b i &&& nb b (par P i) := by
  have h7 := h.le
  have h0 : 0 < i := by omega
  refine ⟨h0, ?_⟩
  have hpl := C.rip.par_lt h0 hi
  obtain ⟨hbn, _, hbc⟩ := C.bag hi
  have hxt : TopAt b x0 i := ⟨hi, hxi, fun j hj => hXl j hj x0 hx0⟩
  have hyt : TopAt b y0 tY := ⟨by omega, hyi, fun j hj => hYl j hj y0 hy0⟩
  have inR : ∀ Z, closed Q (restOf n s) Z → ∀ v, Z.testBit v = true → v < n ∧ s.testBit v = false := fun Z hZ v hv => rest_bit.1 (hZ.1 v hv)
  obtain ⟨D, hD⟩ : ∃ D : Nat, ∀ v, D.testBit v = true ↔ v < n ∧ s.testBit v = false ∧ ∃ t, TopAt b v t ∧ Desc P i t := by
    classical
    refine ⟨setN ((List.range n).filter fun v => decide (s.testBit v = false ∧ ∃ t, TopAt b v t ∧ Desc P i t)), fun v => ?_⟩
    rw [testBit_setN, decide_eq_true_eq, List.mem_filter, List.mem_range, decide_eq_true_eq]
  have hXD : sub X D := by
    have hc : closed Q (restOf n s) (X &&& D) := by
      refine ⟨fun v hv => hX.2.1.1 v (and_bits hv).1, fun u v hu hb hv => ?_⟩
      obtain ⟨huX, huD⟩ := and_bits hu
      have hvX := hX.2.1.2 u v huX hb hv
      obtain ⟨hvn, hvs⟩ := rest_bit.1 hv
      obtain ⟨hun, _, t, ht, hd⟩ := (hD u).1 huD
      obtain ⟨t', ht'⟩ := C.top h hvn
      rw [Nat.testBit_and, hvX, Bool.true_and]
      refine (hD v).2 ⟨hvn, hvs, t', ht', Classical.byContradiction fun hn => ?_⟩
      obtain ⟨j, hj, j1, j2⟩ := C.share h hun hvn (.inr hb)
      have := C.leave ht ht' hj j1 j2 hd hn
      have h2 := hXl (par P i) hpl v hvX
      rw [this.2.1] at h2; cases h2
    have hx : (X &&& D).testBit x0 = true := by
      rw [Nat.testBit_and, hx0, Bool.true_and]
      obtain ⟨a1, a2⟩ := inR X hX.2.1 x0 hx0
      exact (hD x0).2 ⟨a1, a2, i, hxt, Desc.refl i⟩
    have := hX.2.2 _ hc ⟨x0, hx0, hx⟩
    exact fun v hv => (and_bits (this v hv)).2
  have hYD : ∀ v, Y.testBit v = true → D.testBit v = false := by
    have hc : closed Q (restOf n s) (dif Y D) := by
      refine ⟨fun v hv => hY.2.1.1 v (by rw [testBit_dif, Bool.and_eq_true] at hv; exact hv.1), fun u v hu hb hv => ?_⟩
      rw [testBit_dif, Bool.and_eq_true, Bool.not_eq_true'] at hu ⊢
      obtain ⟨huY, huD⟩ := hu
      have hvY := hY.2.1.2 u v huY hb hv
      refine ⟨hvY, Bool.eq_false_iff.2 fun hvD => ?_⟩
      obtain ⟨hvn, _, t, ht, hd⟩ := (hD v).1 hvD
      obtain ⟨hun, hus⟩ := inR Y hY.2.1 u huY
      obtain ⟨t', ht'⟩ := C.top h hun
      have hn : ¬ Desc P i t' := fun e => by
        have := (hD u).2 ⟨hun, hus, t', ht', e⟩
        rw [huD] at this; cases this
      obtain ⟨j, hj, j1, j2⟩ := C.share h hun hvn (.inr hb)
      have := C.leave ht ht' hj j2 j1 hd hn
      exact C.one_part h hX hY hdis hi hxi this.1 hx0 huY
    have hy : (dif Y D).testBit y0 = true := by
      rw [testBit_dif, hy0, Bool.true_and, Bool.not_eq_true', ← Bool.not_eq_true, hD]
      rintro ⟨_, _, t, ht, hd⟩
      have e := ht.unique hyt
      have := C.desc_le ht.1 hd
      omega
    have := hY.2.2 _ hc ⟨y0, hy0, hy⟩
    exact fun v hv => by
      have := this v hv
      rw [testBit_dif, Bool.and_eq_true, Bool.not_eq_true'] at this
      exact this.2
  apply Nat.eq_of_testBit_eq
  intro v
  rw [Nat.testBit_and, Bool.eq_iff_iff, Bool.and_eq_true]
  constructor
  · intro hv
    have hvn := bit_lt hs hv
    obtain ⟨x, _, hxX, hxe⟩ := sees_iff.1 sX v hv
    obtain ⟨y, _, hyY, hye⟩ := sees_iff.1 sY v hv
    obtain ⟨hxn, hxs⟩ := inR X hX.2.1 x hxX
    obtain ⟨hyn, hys⟩ := inR Y hY.2.1 y hyY
    obtain ⟨tv, htv⟩ := C.top h hvn
    have hnv : ¬ Desc P i tv := fun hd => by
      obtain ⟨ty, hty⟩ := C.top h hyn
      have hn : ¬ Desc P i ty := fun e => by
        have h1 := (hD y).2 ⟨hyn, hys, ty, hty, e⟩
        rw [hYD y hyY] at h1; cases h1
      obtain ⟨j, hj, j1, j2⟩ := C.share h hyn hvn (.inr hye)
      have := C.leave htv hty hj j2 j1 hd hn
      exact C.one_part h hX hY hdis hi hxi this.1 hx0 hyY
    obtain ⟨_, _, tx, htx, hdx⟩ := (hD x).1 (hXD x hxX)
    obtain ⟨j, hj, j1, j2⟩ := C.share h hxn hvn (.inr hxe)
    have := C.leave htx htv hj j1 j2 hdx hnv
    exact ⟨this.1, this.2.1⟩
  · rintro ⟨hv1, hv2⟩
    refine Classical.byContradiction fun hvs => ?_
    have hvs' := Bool.eq_false_iff.2 hvs
    have hvn := bit_lt hbn hv1
    have hvX : X.testBit v = true := by
      by_cases e : v = x0
      · rw [e]; exact hx0
      · exact hX.2.1.2 x0 v hx0 ((clq_pairs h).1 hbc x0 (by have := bit_lt hbn hxi; omega) hxi v hv1 e) (rest_bit.2 ⟨hvn, hvs'⟩)
    have := hXl (par P i) hpl v hvX
    rw [hv2] at this; cases this
/-- A minimal separator is what a bag has in common with its parent. -/
theorem CT.min_sep (C : CT n Q b P) (h : GOk n Q) {s : Nat} (hs : s < 2 ^ n) (hm : minSep Q n s = true) : ∃ i, 0 < i ∧ i < b.length ∧ s = nb b i &&& nb b (par P i) := by
  obtain ⟨X, Y, hne, ⟨hX, sX⟩, ⟨hY, sY⟩⟩ := (minSep_iff h).1 hm
  obtain ⟨f1, _, _⟩ := partsK_facts h (rest_lt (n := n) (s := s)) (restOf n s) (restOf n s) (closed_all Q _) (Nat.le_refl _)
  have pX := (f1 X hX).2
  have pY := (f1 Y hY).2
  have hdis : ∀ v, X.testBit v = true → Y.testBit v = true → False := fun v hx hy => by
    have h1 := pX.2.2 Y pY.2.1 ⟨v, hx, hy⟩
    have h2 := pY.2.2 X pX.2.1 ⟨v, hy, hx⟩
    exact hne (Nat.eq_of_testBit_eq fun i => by
      rw [Bool.eq_iff_iff]
      exact ⟨h1 i, h2 i⟩)
  have first : ∀ Z, PartOf Q (restOf n s) Z → ∃ t, t < b.length ∧ (∃ z, Z.testBit z = true ∧ (nb b t).testBit z = true) ∧ ∀ j, j < t → ∀ z, Z.testBit z = true → (nb b j).testBit z = false := fun Z hZ => by
    classical
    obtain ⟨u, hu⟩ := hZ.1
    obtain ⟨hun, _⟩ := rest_bit.1 (hZ.2.1.1 u hu)
    obtain ⟨j, hj, j1, _⟩ := C.share h hun hun (.inl rfl)
    obtain ⟨t, ht, h1, h2⟩ := least_of (fun j => ∃ z, Z.testBit z = true ∧ (nb b j).testBit z = true) j ⟨u, hu, j1⟩
    exact ⟨t, by omega, h1, fun k hk z hz => Bool.eq_false_iff.2 fun e => h2 k hk ⟨z, hz, e⟩⟩
  obtain ⟨tX, hXb, ⟨x0, hx0, hxi⟩, hXl⟩ := first X pX
  obtain ⟨tY, hYb, ⟨y0, hy0, hyi⟩, hYl⟩ := first Y pY
  rcases Nat.lt_trichotomy tX tY with h' | h' | h'
  · have := C.min_core h hs pY pX (fun v hy hx => hdis v hx hy) sY sX hYb hy0 hyi hYl hx0 hxi hXl h'
    exact ⟨tY, this.1, hYb, this.2⟩
  · subst h'
    exact (C.one_part h pX pY hdis hXb hxi hyi hx0 hy0).elim
  · have := C.min_core h hs pX pY hdis sX sY hXb hx0 hxi hXl hy0 hyi hYl h'
    exact ⟨tX, this.1, hXb, this.2⟩
end
end Go.Proofs.YthncdjcmlpiebaaGreatDoor
namespace Go.Proofs.YthncdjcmlpiebaaGreatDoor
open Go.RowKit
/-- The new row's block is the old one's, or a new one. -/
def FreshFrom (w : World) (v v' : Value) : Prop := ∀ j, v'.ownBlock = some j → v.ownBlock = some j ∨ w.heap.size ≤ j
section
variable {P : Program}
set_option maxRecDepth 100000 in
theorem run_push (w : World) (base : Nat) (t ty e : TypeId) (i : TypeInfo) (z : Value) (bytes : Nat) (ht : P.underlying t = some (.slice e)) (hi : P.info? e = some i) (hz : i.zero = some z)
    (hsize : i.size = 1) (hby : i.bytes = bytes) (hzs : z.cells.size = 1) {A : Option Addr} {n c : Nat} {xs : List Value} (hown : w.ownsRow base e 1 (.slice A n c) n xs)
    (ad : Addr) (y : Value) (hc : w.cell? ad = some y) (h1 : y.oneCell' = true) (h63 : n + 1 ≤ maxLen) (hbytes : (n + 1) * bytes ≤ 140737488355328) (hbase : base ≤ w.heap.size) :
    ∃ A' c' w', (Builtin.append_ #[t, t] ty #[.slice A n c, .slice (some ad) 1 1]).run P w = .ok (.slice A' (n + 1) c') w' ∧ w'.ownsRow base e 1 (.slice A' (n + 1) c') (n + 1) (xs ++ [y]) ∧ w.grownBy w' (Value.slice A n c).ownBlock ∧
      FreshFrom w (.slice A n c) (.slice A' (n + 1) c') := by
  have hnews : ∀ j u, [y][j]? = some u → w.cell? (ad.add j) = some u := fun j u hj => by
    match j, hj with
    | 0, hj => simp at hj; subst hj; simpa [Addr.add] using hc
  have hone : ∀ u ∈ [y], u.oneCell' = true := fun u hu => by simp at hu; subst hu; exact h1
  obtain ⟨v', w', hr, h2, h3, _⟩ := run_append_own (P := P) w base t ty e i z 1 bytes ht hi hz hsize hby hzs (by omega) (.slice A n c) n xs hown ad 1 1 [y] rfl hnews hone h63 hbytes hbase
  have hex : ∃ A' c', v' = .slice A' (n + 1) c' := by
    rcases h2.2 with ⟨_, h0⟩ | ⟨g, cap, cur, hv, _⟩
    · omega
    · exact ⟨_, _, hv⟩
  obtain ⟨A', c', rfl⟩ := hex
  refine ⟨A', c', w', hr, h2, h3, ?_⟩
  have hxl : xs.length = n := by have := hown.1; omega
  rcases hown.2 with ⟨hv, hn⟩ | ⟨g, cap, cur, hv, hb, hg, hnc, hcm, hsz, htake⟩
  · injection hv with e1 e2 e3
    subst e1 e2 e3
    have hx0 : xs = [] := List.eq_nil_of_length_eq_zero hxl
    subst hx0
    obtain ⟨v2, w2, hr2, k2, _, _⟩ := run_append_own (P := P) w w.heap.size t ty e i z 1 bytes ht hi hz hsize hby hzs (by omega) (.slice none 0 0) 0 [] (World.ownsRow_nil w _ e 1) ad 1 1 [y] rfl hnews hone h63 hbytes (Nat.le_refl _)
    rw [hr] at hr2
    injection hr2 with e1 e2
    subst e1
    exact fun j hj => .inr (World.ownsRow.lt k2 j hj).1
  · injection hv with e1 e2 e3
    subst e1 e3
    by_cases hroom : n + 1 ≤ c
    · have hcell : ∀ j, j < [y].length → (w.cell? ⟨g, 0 + n * i.size + j, none⟩).isSome = true := fun j hj => by
        have : j = 0 := by simpa using hj
        subst this
        rw [hsize, cell_of_row w g _ cur e (0, 0) hg, Array.getElem?_eq_getElem (by rw [hsz]; omega)]; rfl
      have hfrz : ∀ j, j < [y].length → w.frozen? ⟨g, 0 + n * i.size + j, none⟩ = false := fun j _ => by simp [World.frozen?, hg]
      have hr2 := run_append_room_cells (P := P) w t ty e i ht hi g 0 n c ad 1 1 [y] (by rw [hsize]; rfl) hnews hone hroom hcell hfrz
      rw [hr] at hr2
      injection hr2 with e1 e2
      injection e1 with e3 _ _
      subst e3
      exact fun j hj => .inl hj
    · have holds : ∀ j u, xs[j]? = some u → w.cell? ((⟨g, 0, none⟩ : Addr).add j) = some u := World.ownsRow.cells hown rfl
      obtain ⟨v2, w2, hr2, k2, _⟩ := run_append_arg_grows (P := P) w t ty e i z 1 bytes ht hi hz hsize hby hzs (by omega) ⟨g, 0, none⟩ n c xs (by omega) holds ad 1 1 [y] rfl hnews (by omega) h63 hbytes
      rw [hr] at hr2
      injection hr2 with e1 e2
      subst e1
      exact fun j hj => .inr (World.ownsRow.lt k2 j hj).1
set_option maxRecDepth 100000 in
theorem wp_push2 {o : Oper} {a : Act} {w : World} {K : Act → World → Prop} {Q : Exit → Act → World → Prop} (s x : Operand) (t e : TypeId) (ho : o.op = .call { callee := .builtin .append, args := #[s, x], argTypes := #[t, t] })
    (i : TypeInfo) (z : Value) (bytes : Nat) (ht : P.underlying t = some (.slice e)) (hi : P.info? e = some i) (hz : i.zero = some z) (hsize : i.size = 1) (hby : i.bytes = bytes) (hzs : z.cells.size = 1)
    {base : Nat} {A : Option Addr} {n c : Nat} {xs : List Value} (hs : a.eval s = .slice A n c) (hown : w.ownsRow base e 1 (.slice A n c) n xs)
    (ad : Addr) (y : Value) (hx : a.eval x = .slice (some ad) 1 1) (hc : w.cell? ad = some y) (h1 : y.oneCell' = true) (h63 : n + 1 ≤ maxLen) (hbytes : (n + 1) * bytes ≤ 140737488355328) (hbase : base ≤ w.heap.size)
    (h : ∀ A' c' w', w'.ownsRow base e 1 (.slice A' (n + 1) c') (n + 1) (xs ++ [y]) → w.grownBy w' (Value.slice A n c).ownBlock → FreshFrom w (.slice A n c) (.slice A' (n + 1) c') → K (a.put o.dst (.slice A' (n + 1) c')) w') : o.wp P a w K Q := by
  obtain ⟨A', c', w', hr, h2, h3, h4⟩ := run_push (P := P) w base t o.type e i z bytes ht hi hz hsize hby hzs hown ad y hc h1 h63 hbytes hbase
  unfold Oper.wp execOp
  simp only [ho, resolve, invoke, builtin, Sem.run_bind, Sem.run_pure, Result.andThen_ok, List.map_toArray, List.map_cons, List.map_nil, hs, hx, hr]
  exact h A' c' w' h2 h3 h4
end
/-- Two rows of the call's own, of different blocks, and what else is as it was in W. -/
structure Two (W : World) (ra rb : Option Nat) (base : Nat) (e1 e2 : TypeId) (A : Option Addr) (n c : Nat) (xs : List Value) (B : Option Addr) (m d : Nat) (ys : List Value) (w : World) : Prop where
  a : w.ownsRow base e1 1 (.slice A n c) n xs
  b : w.ownsRow base e2 1 (.slice B m d) m ys
  ne : ∀ j, (Value.slice A n c).ownBlock = some j → (Value.slice B m d).ownBlock ≠ some j
  os : w.os = W.os
  tape : w.tape = W.tape
  output : w.output = W.output
  size : W.heap.size ≤ w.heap.size
  block : ∀ k, k < W.heap.size → some k ≠ ra → some k ≠ rb → w.heap[k]? = W.heap[k]?
  fa : ∀ j, (Value.slice A n c).ownBlock = some j → ra = some j ∨ W.heap.size ≤ j
  fb : ∀ j, (Value.slice B m d).ownBlock = some j → rb = some j ∨ W.heap.size ≤ j
section
variable {W : World} {ra rb : Option Nat} {base : Nat} {e1 e2 : TypeId} {A B : Option Addr} {n c m d : Nat} {xs ys : List Value} {w w' : World}
set_option maxRecDepth 100000 in
theorem Two.start (ha : W.ownsRow base e1 1 (.slice A n c) n xs) (hb : W.ownsRow base e2 1 (.slice B m d) m ys) (hne : ∀ j, (Value.slice A n c).ownBlock = some j → (Value.slice B m d).ownBlock ≠ some j) :
    Two W (Value.slice A n c).ownBlock (Value.slice B m d).ownBlock base e1 e2 A n c xs B m d ys W :=
  ⟨ha, hb, hne, rfl, rfl, rfl, Nat.le_refl _, fun _ _ _ _ => rfl, fun _ h => .inl h, fun _ h => .inl h⟩
set_option maxRecDepth 100000 in
theorem Two.alloc (h : Two W ra rb base e1 e2 A n c xs B m d ys w) (o : Obj) : Two W ra rb base e1 e2 A n c xs B m d ys (w.alloc o) :=
  ⟨World.ownsRow.alloc h.a o, World.ownsRow.alloc h.b o, h.ne, h.os, h.tape, h.output, by have := h.size; simp; omega, fun k hk h1 h2 => (Below.heap_alloc w o k (by have := h.size; omega)).trans (h.block k hk h1 h2), h.fa, h.fb⟩
set_option maxRecDepth 100000 in
theorem Two.pushA {y : Value} {A' : Option Addr} {c' : Nat} (h : Two W ra rb base e1 e2 A n c xs B m d ys w) (h2 : w'.ownsRow base e1 1 (.slice A' (n + 1) c') (n + 1) (xs ++ [y])) (h3 : w.grownBy w' (Value.slice A n c).ownBlock)
    (h4 : FreshFrom w (.slice A n c) (.slice A' (n + 1) c')) : Two W ra rb base e1 e2 A' (n + 1) c' (xs ++ [y]) B m d ys w' := by
  refine ⟨h2, World.ownsRow.kept h.b h3 ?_, fun j hj hk => ?_, h3.os.trans h.os, h3.tape.trans h.tape, h3.output.trans h.output, Nat.le_trans h.size h3.size, fun k hk h5 h6 => ?_, fun j hj => ?_, h.fb⟩
  · rcases hv : (Value.slice B m d).ownBlock with _ | k
    · exact .inl rfl
    · exact .inr fun e => h.ne k e.symm hv
  · rcases h4 j hj with h5 | h5
    · exact h.ne j h5 hk
    · have := (World.ownsRow.lt h.b j hk).2
      omega
  · refine (h3.block k (by have := h.size; omega) fun e => ?_).trans (h.block k hk h5 h6)
    rcases h.fa k e.symm with h7 | h7
    · exact h5 h7.symm
    · omega
  · rcases h4 j hj with h5 | h5
    · exact h.fa j h5
    · have := h.size; exact .inr (by omega)
set_option maxRecDepth 100000 in
theorem Two.pushB {y : Value} {B' : Option Addr} {d' : Nat} (h : Two W ra rb base e1 e2 A n c xs B m d ys w) (h2 : w'.ownsRow base e2 1 (.slice B' (m + 1) d') (m + 1) (ys ++ [y])) (h3 : w.grownBy w' (Value.slice B m d).ownBlock)
    (h4 : FreshFrom w (.slice B m d) (.slice B' (m + 1) d')) : Two W ra rb base e1 e2 A n c xs B' (m + 1) d' (ys ++ [y]) w' := by
  refine ⟨World.ownsRow.kept h.a h3 ?_, h2, fun j hj hk => ?_, h3.os.trans h.os, h3.tape.trans h.tape, h3.output.trans h.output, Nat.le_trans h.size h3.size, fun k hk h5 h6 => ?_, h.fa, fun j hj => ?_⟩
  · rcases hv : (Value.slice A n c).ownBlock with _ | k
    · exact .inl rfl
    · exact .inr fun e => h.ne k hv e.symm
  · rcases h4 j hk with h5 | h5
    · exact h.ne j hj h5
    · have := (World.ownsRow.lt h.a j hj).2
      omega
  · refine (h3.block k (by have := h.size; omega) fun e => ?_).trans (h.block k hk h5 h6)
    rcases h.fb k e.symm with h7 | h7
    · exact h6 h7.symm
    · omega
  · rcases h4 j hj with h5 | h5
    · exact h.fb j h5
    · have := h.size; exact .inr (by omega)
set_option maxRecDepth 100000 in
theorem Two.below {V : World} (h : Two W ra rb base e1 e2 A n c xs B m d ys w) (hb : Below base V W) (hra : ∀ k, ra = some k → base ≤ k) (hrb : ∀ k, rb = some k → base ≤ k) (hs : base ≤ W.heap.size) : Below base V w :=
  ⟨h.os.trans hb.os, h.tape.trans hb.tape, h.output.trans hb.output, Nat.le_trans hb.size h.size, fun k hk => (h.block k (by omega) (fun e => by have := hra k e.symm; omega) (fun e => by have := hrb k e.symm; omega)).trans (hb.block k hk)⟩
set_option maxRecDepth 100000 in
theorem Two.blk {g : Nat} {t : TypeId} {cs : Array Value} (h : Two W ra rb base e1 e2 A n c xs B m d ys w) (hg : Blk W g t cs) (h1 : some g ≠ ra) (h2 : some g ≠ rb) : Blk w g t cs := (h.block g hg.lt h1 h2).trans hg
end
set_option maxRecDepth 100000 in
/-- The cell of a literal of one element. -/
theorem cell_lit {w : World} {g : Nat} {e : TypeId} {y : Value} (h : w.heap.size = g) : (w.alloc (.cells #[y] e)).cell? ⟨g, 0, none⟩ = some y := (Blk.new_at h).one
set_option maxRecDepth 100000 in
theorem cell_lit1 {w : World} {g : Nat} {e : TypeId} {y : Value} {o : Obj} (h : w.heap.size = g) : ((w.alloc (.cells #[y] e)).alloc o).cell? ⟨g, 0, none⟩ = some y := ((Blk.new_at h).alloc o).one
set_option maxRecDepth 100000 in
theorem cell_lit4 {w w' : World} {g : Nat} {e : TypeId} {y : Value} {row : Option Nat} (hg : (w.alloc (.cells #[y] e)).drew.grownBy w' row) (h : w.heap.size = g) (hne : some g ≠ row) : w'.cell? ⟨g, 0, none⟩ = some y :=
  hg.cell (w := (w.alloc (.cells #[y] e)).drew) (Blk.drew (Blk.new_at h)).one hne
set_option maxRecDepth 100000 in
theorem cell_lit5 {w w' : World} {g : Nat} {e : TypeId} {y : Value} {o : Obj} {row : Option Nat} (hg : ((w.alloc (.cells #[y] e)).alloc o).drew.grownBy w' row) (h : w.heap.size = g) (hne : some g ≠ row) : w'.cell? ⟨g, 0, none⟩ = some y :=
  hg.cell (w := ((w.alloc (.cells #[y] e)).alloc o).drew) (Blk.drew ((Blk.new_at h).alloc o)).one hne
set_option maxRecDepth 100000 in
/-- append of a number onto the first | the second of two own rows, as a step of a region that draws. -/
theorem stepA_int {ops : Array Oper} {o : Oper} {a : Act} {w : World} {K : Act → World → Prop} {Q : Exit → Act → World → Prop} {E : Prop} (hgd : o.guard = none) (s x : Operand)
    (ho : o.op = .call { callee := .builtin .append, args := #[s, x], argTypes := #[24, 24] }) {W : World} {ra rb : Option Nat} {base : Nat} {e2 : TypeId} {A B : Option Addr} {n c m d : Nat} {xs ys : List Value} (y : Int)
    (hs : a.eval s = .slice A n c) (h : Two W ra rb base 3 e2 A n c xs B m d ys w) (ad : Addr) (hx : a.eval x = .slice (some ad) 1 1) (hc : w.cell? ad = some (.int .i64 y)) (hn : n ≤ 1048576) (hbase : base ≤ W.heap.size)
    (hK : ∀ A' c' w', Two W ra rb base 3 e2 A' (n + 1) c' (xs ++ [.int .i64 y]) B m d ys w' → w.grownBy w' (Value.slice A n c).ownBlock → K (a.put o.dst (.slice A' (n + 1) c')) w') :
    if Region.wanted o (yielded ops a.tmps) = true then Oper.wp Tryz.prog o a w K Q else E := by
  have hw : Region.wanted o (yielded ops a.tmps) = true := by simp [Region.wanted, hgd]
  rw [if_pos hw]
  obtain ⟨i0, hi, hz0, hz1, hz2⟩ := info_parts Tryz.info3
  exact wp_push2 s x 24 3 ho i0 (.int .i64 0) 8 Tryz.underlying24 hi hz0 hz1 hz2 rfl hs h.a ad _ hx hc rfl (by unfold maxLen; omega) (by omega) (Nat.le_trans hbase h.size) fun A' c' w' h2 h3 h4 => hK A' c' w' (h.pushA h2 h3 h4) h3
set_option maxRecDepth 100000 in
theorem stepB_int {ops : Array Oper} {o : Oper} {a : Act} {w : World} {K : Act → World → Prop} {Q : Exit → Act → World → Prop} {E : Prop} (hgd : o.guard = none) (s x : Operand)
    (ho : o.op = .call { callee := .builtin .append, args := #[s, x], argTypes := #[24, 24] }) {W : World} {ra rb : Option Nat} {base : Nat} {e1 : TypeId} {A B : Option Addr} {n c m d : Nat} {xs ys : List Value} (y : Int)
    (hs : a.eval s = .slice B m d) (h : Two W ra rb base e1 3 A n c xs B m d ys w) (ad : Addr) (hx : a.eval x = .slice (some ad) 1 1) (hc : w.cell? ad = some (.int .i64 y)) (hn : m ≤ 1048576) (hbase : base ≤ W.heap.size)
    (hK : ∀ B' d' w', Two W ra rb base e1 3 A n c xs B' (m + 1) d' (ys ++ [.int .i64 y]) w' → w.grownBy w' (Value.slice B m d).ownBlock → K (a.put o.dst (.slice B' (m + 1) d')) w') :
    if Region.wanted o (yielded ops a.tmps) = true then Oper.wp Tryz.prog o a w K Q else E := by
  have hw : Region.wanted o (yielded ops a.tmps) = true := by simp [Region.wanted, hgd]
  rw [if_pos hw]
  obtain ⟨i0, hi, hz0, hz1, hz2⟩ := info_parts Tryz.info3
  exact wp_push2 s x 24 3 ho i0 (.int .i64 0) 8 Tryz.underlying24 hi hz0 hz1 hz2 rfl hs h.b ad _ hx hc rfl (by unfold maxLen; omega) (by omega) (Nat.le_trans hbase h.size) fun B' d' w' h2 h3 h4 => hK B' d' w' (h.pushB h2 h3 h4) h3
end Go.Proofs.YthncdjcmlpiebaaGreatDoor
namespace Go.Proofs.YthncdjcmlpiebaaGreatDoor
open Go.RowKit
set_option maxRecDepth 100000 in
theorem RI.ints_at {w : World} {A : Option Addr} {m k : Nat} {o : List Nat} (h : RI w A m (ints o)) (hk : k < m) : ∃ ad, A = some ad ∧ w.cell? (ad.add k) = some (.int .i64 (nb o k)) := by
  obtain ⟨a, e, _, hc⟩ := h.at_ hk
  rw [ints_nb] at hc
  exact ⟨a, e, hc⟩
end Go.Proofs.YthncdjcmlpiebaaGreatDoor
namespace Go.Proofs.YthncdjcmlpiebaaGreatDoor
open Go.RowKit
set_option maxRecDepth 100000 in
/-- A chordal graph is a graph, and has cliques. -/
theorem chordal_cases {N : Int} {X : List Int} (h : (elimOf N X).isSome = true) : ∃ (n : Nat) (Q : List Nat), N = n ∧ X = ints Q ∧ GOk n Q ∧ maxCliquesOf N X = maxCliques Q n := by
  rcases isGraph_cases N X with hg | ⟨k, Q, rfl, rfl, hk⟩
  · rw [elimOf_no hg] at h; cases h
  · exact ⟨k, Q, rfl, rfl, hk, maxCliquesOf_ok hk⟩
set_option maxRecDepth 100000 in
theorem cliques_ok {N : Int} {X : List Int} (h : (elimOf N X).isSome = true) : (∀ x ∈ maxCliquesOf N X, x < 2 ^ 7) ∧ 0 < (maxCliquesOf N X).length ∧ (maxCliquesOf N X).length ≤ 128 := by
  obtain ⟨n, Q, rfl, rfl, hk, e⟩ := chordal_cases h
  rw [e]
  exact ⟨fun x hx => hk.n7 (maxCliques_lt hx), maxCliques_pos hk, maxCliques_len Q hk.le⟩
set_option maxRecDepth 100000 in
theorem implIsChordal_is {N : Int} {A : Option Addr} {n c : Nat} {X : List Int} {w : World} {b : Bool} (hX : RI w A n X) (hn : n ≤ 9223372036854775807) (hb : (elimOf N X).isSome = b) :
    Calls Tryz.prog 79 #[.agg #[.int .i64 N, .slice A n c]] w fun e w' => e = .returned (.bool b) ∧ Below w.heap.size w w' := by
  subst hb
  go_enter Tryz.func79, Tryz.ntmps79
  go_wp2_with fail
  refine (implEliminationOf_any N A n c X _ (hX.up (by go_grown)) hn).mono ?_
  rintro e w1 ⟨A1, c1, rfl, hown, hb1⟩
  have hU1 : Up w w1 := Up.then_ (by go_grown) hb1
  go_wp2
  go_ret
  exact ⟨rfl, hU1⟩
set_option maxRecDepth 100000 in
theorem specIsChordal_is {N : Int} {A : Option Addr} {n c : Nat} {X : List Int} {w : World} {b : Bool} (hX : RI w A n X) (hn : n ≤ 9223372036854775807) (hb : (elimOf N X).isSome = b) :
    Calls Tryz.prog 36 #[.agg #[.int .i64 N, .slice A n c]] w fun e w' => e = .returned (.bool b) ∧ Below w.heap.size w w' := by
  subst hb
  go_enter Tryz.func36, Tryz.ntmps36
  go_wp2_with fail
  refine (specEliminationOf_any N A n c X _ (hX.up (by go_grown)) hn).mono ?_
  rintro e w1 ⟨A1, c1, rfl, hown, hb1⟩
  have hU1 : Up w w1 := Up.then_ (by go_grown) hb1
  go_wp2
  go_ret
  exact ⟨rfl, hU1⟩
end Go.Proofs.YthncdjcmlpiebaaGreatDoor
namespace Go.Proofs
open Go.Shelf
def Tryz.lays189_ren : Go.Shelf.Ren := ⟨fun | 189 => 135 | 125 => 151 | 257 => 150 | 128 => 168 | 129 => 169 | 294 => 159 | 295 => 160 | 296 => 161 | 297 => 162 | 298 => 163 | 299 => 164 | 216 => 165 | 300 => 166 | 301 => 167 | 328 => 175 | 329 => 176 | 330 => 177 | 331 => 178 | 332 => 179 | 215 => 180 | 343 => 186 | n => n, fun | 28 => 24 | 3 => 3 | 46 => 120 | 0 => 0 | 51 => 140 | 53 => 142 | 4 => 4 | 183 => 133 | 182 => 132 | 131 => 137 | 5 => 5 | 9 => 9 | 218 => 147 | 222 => 151 | 228 => 157 | 229 => 32 | n => n, fun | n => n⟩
set_option maxRecDepth 100000 in
theorem Tryz.lays189 : Go.Proofs.Lays.n189 Tryz.prog Tryz.lays189_ren := {
  mixed := by kernel_rfl
  f125 := Tryz.func151.trans (congrArg some (by kernel_rfl))
  f128 := Tryz.func168.trans (congrArg some (by kernel_rfl))
  f129 := Tryz.func169.trans (congrArg some (by kernel_rfl))
  f189 := Tryz.func135.trans (congrArg some (by kernel_rfl))
  f215 := Tryz.func180.trans (congrArg some (by kernel_rfl))
  f216 := Tryz.func165.trans (congrArg some (by kernel_rfl))
  f257 := Tryz.func150.trans (congrArg some (by kernel_rfl))
  f294 := Tryz.func159.trans (congrArg some (by kernel_rfl))
  f295 := Tryz.func160.trans (congrArg some (by kernel_rfl))
  f296 := Tryz.func161.trans (congrArg some (by kernel_rfl))
  f297 := Tryz.func162.trans (congrArg some (by kernel_rfl))
  f298 := Tryz.func163.trans (congrArg some (by kernel_rfl))
  f299 := Tryz.func164.trans (congrArg some (by kernel_rfl))
  f300 := Tryz.func166.trans (congrArg some (by kernel_rfl))
  f301 := Tryz.func167.trans (congrArg some (by kernel_rfl))
  f328 := Tryz.func175.trans (congrArg some (by kernel_rfl))
  f329 := Tryz.func176.trans (congrArg some (by kernel_rfl))
  f330 := Tryz.func177.trans (congrArg some (by kernel_rfl))
  f331 := Tryz.func178.trans (congrArg some (by kernel_rfl))
  f332 := Tryz.func179.trans (congrArg some (by kernel_rfl))
  f343 := Tryz.func186.trans (congrArg some (by kernel_rfl))
  t0 := Tryz.underlying0
  a0 := Tryz.isAgg0
  z0 := Tryz.sizeOf0
  v0 := Tryz.zeroValue0
  t3 := Tryz.underlying3
  a3 := Tryz.isAgg3
  z3 := Tryz.sizeOf3
  v3 := Tryz.zeroValue3
  t4 := Tryz.underlying4
  a4 := Tryz.isAgg4
  z4 := Tryz.sizeOf4
  v4 := Tryz.zeroValue4
  t5 := Tryz.underlying5
  a5 := Tryz.isAgg5
  z5 := Tryz.sizeOf5
  v5 := Tryz.zeroValue5
  t9 := Tryz.underlying9
  a9 := Tryz.isAgg9
  z9 := Tryz.sizeOf9
  v9 := Tryz.zeroValue9
  t28 := Tryz.underlying24
  a28 := Tryz.isAgg24
  z28 := Tryz.sizeOf24
  v28 := Tryz.zeroValue24
  t46 := Tryz.underlying120
  a46 := Tryz.isAgg120
  z46 := Tryz.sizeOf120
  v46 := Tryz.zeroValue120
  t51 := Tryz.underlying140
  a51 := Tryz.isAgg140
  z51 := Tryz.sizeOf140
  v51 := Tryz.zeroValue140
  t53 := Tryz.underlying142
  a53 := Tryz.isAgg142
  z53 := Tryz.sizeOf142
  v53 := Tryz.zeroValue142
  t131 := Tryz.underlying137
  a131 := Tryz.isAgg137
  z131 := Tryz.sizeOf137
  v131 := Tryz.zeroValue137
  t182 := Tryz.underlying132
  a182 := Tryz.isAgg132
  z182 := Tryz.sizeOf132
  v182 := Tryz.zeroValue132
  t183 := Tryz.underlying133
  a183 := Tryz.isAgg133
  z183 := Tryz.sizeOf133
  v183 := Tryz.zeroValue133
  t218 := Tryz.underlying147
  a218 := Tryz.isAgg147
  z218 := Tryz.sizeOf147
  v218 := Tryz.zeroValue147
  t222 := Tryz.underlying151
  a222 := Tryz.isAgg151
  z222 := Tryz.sizeOf151
  v222 := Tryz.zeroValue151
  t228 := Tryz.underlying157
  a228 := Tryz.isAgg157
  z228 := Tryz.sizeOf157
  v228 := Tryz.zeroValue157
  t229 := Tryz.underlying32
  a229 := Tryz.isAgg32
  z229 := Tryz.sizeOf32
  v229 := Tryz.zeroValue32 }
def Tryz.lays2n20_ren : Go.Shelf.Ren := ⟨fun | 20 => 91 | n => n, fun | 22 => 24 | 3 => 3 | 4 => 4 | 0 => 0 | n => n, fun | n => n⟩
set_option maxRecDepth 100000 in
theorem Tryz.lays2n20 : Go.Proofs.Lays2.n20 Tryz.prog Tryz.lays2n20_ren := {
  mixed := by kernel_rfl
  f20 := Tryz.func91.trans (congrArg some (by kernel_rfl))
  t0 := Tryz.underlying0
  a0 := Tryz.isAgg0
  z0 := Tryz.sizeOf0
  v0 := Tryz.zeroValue0
  t3 := Tryz.underlying3
  a3 := Tryz.isAgg3
  z3 := Tryz.sizeOf3
  v3 := Tryz.zeroValue3
  t4 := Tryz.underlying4
  a4 := Tryz.isAgg4
  z4 := Tryz.sizeOf4
  v4 := Tryz.zeroValue4
  t22 := Tryz.underlying24
  a22 := Tryz.isAgg24
  z22 := Tryz.sizeOf24
  v22 := Tryz.zeroValue24
  i3 := by kernel_rfl }
def Tryz.lays2n15_ren : Go.Shelf.Ren := ⟨fun | 15 => 134 | n => n, fun | 22 => 24 | 3 => 3 | 4 => 4 | n => n, fun | n => n⟩
set_option maxRecDepth 100000 in
theorem Tryz.lays2n15 : Go.Proofs.Lays2.n15 Tryz.prog Tryz.lays2n15_ren := {
  mixed := by kernel_rfl
  f15 := Tryz.func134.trans (congrArg some (by kernel_rfl))
  t3 := Tryz.underlying3
  a3 := Tryz.isAgg3
  z3 := Tryz.sizeOf3
  v3 := Tryz.zeroValue3
  t4 := Tryz.underlying4
  a4 := Tryz.isAgg4
  z4 := Tryz.sizeOf4
  v4 := Tryz.zeroValue4
  t22 := Tryz.underlying24
  a22 := Tryz.isAgg24
  z22 := Tryz.sizeOf24
  v22 := Tryz.zeroValue24
  i3 := by kernel_rfl }
end Go.Proofs
namespace Go.Proofs.YthncdjcmlpiebaaGreatDoor
/-- Where x belongs among the first k. -/
def posK (out : List Int) (x : Int) : Nat → Nat
  | 0 => 0
  | k + 1 => if x < out.getD k 0 then posK out x k else k + 1
def posI (out : List Int) (x : Int) : Nat := posK out x out.length
def insI (out : List Int) (x : Int) : List Int := out.take (posI out x) ++ [x] ++ out.drop (posI out x)
def insK (xs : List Int) : Nat → List Int
  | 0 => []
  | k + 1 => insI (insK xs k) (xs.getD k 0)
def sortI (xs : List Int) : List Int := xs.mergeSort fun x y => decide (x ≤ y)
theorem posK_le (out : List Int) (x : Int) : ∀ k, posK out x k ≤ k
  | 0 => Nat.le_refl _
  | k + 1 => by rw [posK]; split; exact Nat.le_succ_of_le (posK_le out x k); exact Nat.le_refl _
theorem posI_le (out : List Int) (x : Int) : posI out x ≤ out.length := posK_le _ _ _
theorem posK_gt (out : List Int) (x : Int) : ∀ k j, posK out x k ≤ j → j < k → x < out.getD j 0
  | 0, j, _, h => by omega
  | k + 1, j, h1, h2 => by
    rw [posK] at h1
    split at h1
    · rename_i hx
      rcases Nat.lt_succ_iff_lt_or_eq.1 h2 with h3 | rfl
      · exact posK_gt out x k j h1 h3
      · exact hx
    · omega
theorem posK_le_at (out : List Int) (x : Int) : ∀ k, posK out x k = 0 ∨ out.getD (posK out x k - 1) 0 ≤ x
  | 0 => .inl rfl
  | k + 1 => by
    rw [posK]
    split
    · exact posK_le_at out x k
    · right
      rw [Nat.add_sub_cancel]
      omega
theorem insI_len (out : List Int) (x : Int) : (insI out x).length = out.length + 1 := by
  have := posI_le out x
  simp only [insI, List.length_append, List.length_take, List.length_drop, List.length_singleton]
  omega
theorem insK_len (xs : List Int) : ∀ k, (insK xs k).length = k
  | 0 => rfl
  | k + 1 => by rw [insK, insI_len, insK_len xs k]
theorem insI_perm (out : List Int) (x : Int) : (insI out x).Perm (x :: out) := by
  rw [insI]
  have h1 : (out.take (posI out x) ++ [x] ++ out.drop (posI out x)).Perm ([x] ++ out.take (posI out x) ++ out.drop (posI out x)) := List.Perm.append_right _ List.perm_append_comm
  have h2 : [x] ++ out.take (posI out x) ++ out.drop (posI out x) = x :: out := by simp
  rw [h2] at h1
  exact h1
theorem getD_memI {out : List Int} {j : Nat} (h : j < out.length) : out.getD j 0 = out[j] := by simp [List.getD, List.getElem?_eq_getElem h]
theorem insI_sorted {out : List Int} (x : Int) (h : out.Pairwise (· ≤ ·)) : (insI out x).Pairwise (· ≤ ·) := by
  have hle := posI_le out x
  have hg := List.pairwise_iff_getElem.1 h
  have hd : ∀ y ∈ out.drop (posI out x), x ≤ y := by
    intro y hy
    obtain ⟨j, hj, rfl⟩ := List.mem_iff_getElem.1 hy
    rw [List.getElem_drop]
    have hj' : posI out x + j < out.length := by rw [List.length_drop] at hj; omega
    have := posK_gt out x out.length (posI out x + j) (Nat.le_add_right _ _) hj'
    rw [getD_memI hj'] at this
    omega
  have ht : ∀ y ∈ out.take (posI out x), y ≤ x := by
    intro y hy
    obtain ⟨j, hj, rfl⟩ := List.mem_iff_getElem.1 hy
    rw [List.getElem_take]
    have hj' : j < posI out x := by rw [List.length_take] at hj; omega
    rcases posK_le_at out x out.length with e | e
    · have : posI out x = 0 := e
      omega
    · have e' : out.getD (posI out x - 1) 0 ≤ x := e
      rw [getD_memI (by omega)] at e'
      rcases Nat.lt_or_ge j (posI out x - 1) with h1 | h1
      · have := hg j (posI out x - 1) (by omega) (by omega) h1
        omega
      · obtain rfl : j = posI out x - 1 := by omega
        exact e'
  rw [insI, List.pairwise_append, List.pairwise_append]
  refine ⟨⟨h.sublist (List.take_sublist _ _), by simp, ?_⟩, h.sublist (List.drop_sublist _ _), ?_⟩
  · intro a ha b hb
    obtain rfl : b = x := by simpa using hb
    exact ht a ha
  · intro a ha b hb
    rcases List.mem_append.1 ha with ha | ha
    · exact Int.le_trans (ht a ha) (hd b hb)
    · obtain rfl : a = x := by simpa using ha
      exact hd b hb
theorem insK_perm (xs : List Int) : ∀ k, k ≤ xs.length → (insK xs k).Perm (xs.take k)
  | 0, _ => by simp [insK]
  | k + 1, h => by
    have h1 := insK_perm xs k (by omega)
    rw [insK, List.take_succ_eq_append_getElem (by omega), getD_memI (by omega)]
    exact (insI_perm _ _).trans ((h1.cons _).trans (List.perm_append_comm (l₁ := [xs[k]])))
theorem insK_sorted (xs : List Int) : ∀ k, (insK xs k).Pairwise (· ≤ ·)
  | 0 => by simp [insK]
  | k + 1 => insI_sorted _ (insK_sorted xs k)
theorem sortI_sorted (xs : List Int) : (sortI xs).Pairwise (· ≤ ·) := by
  have := List.pairwise_mergeSort (le := fun (x y : Int) => decide (x ≤ y)) (fun a b c h1 h2 => by simp at *; omega) (fun a b => by simp; omega) xs
  exact this.imp fun h => by simpa using h
theorem sortI_perm (xs : List Int) : (sortI xs).Perm xs := List.mergeSort_perm _ _
theorem sortI_len (xs : List Int) : (sortI xs).length = xs.length := (sortI_perm xs).length_eq
theorem sorted_unique {xs ys : List Int} (h1 : xs.Pairwise (· ≤ ·)) (h2 : ys.Pairwise (· ≤ ·)) (h : xs.Perm ys) : xs = ys := List.Perm.eq_of_pairwise (fun a b _ _ h3 h4 => by omega) h1 h2 h
/-- Insertion sorts. -/
theorem insK_all (xs : List Int) : insK xs xs.length = sortI xs := by
  have h1 := insK_perm xs xs.length (Nat.le_refl _)
  rw [List.take_length] at h1
  exact sorted_unique (insK_sorted _ _) (sortI_sorted _) (h1.trans (sortI_perm xs).symm)
/-- Each once, as they come. -/
def onceK (xs : List Int) : Nat → List Int
  | 0 => []
  | k + 1 => if xs.getD k 0 ∈ onceK xs k then onceK xs k else onceK xs k ++ [xs.getD k 0]
theorem onceK_yes {xs : List Int} {k : Nat} (h : xs.getD k 0 ∈ onceK xs k) : onceK xs (k + 1) = onceK xs k := by rw [onceK, if_pos h]
theorem onceK_no {xs : List Int} {k : Nat} (h : xs.getD k 0 ∉ onceK xs k) : onceK xs (k + 1) = onceK xs k ++ [xs.getD k 0] := by rw [onceK, if_neg h]
theorem onceK_len (xs : List Int) : ∀ k, (onceK xs k).length ≤ k
  | 0 => Nat.le_refl _
  | k + 1 => by
    have := onceK_len xs k
    rw [onceK]
    split
    · omega
    · simp; omega
theorem onceK_nodup (xs : List Int) : ∀ k, (onceK xs k).Nodup
  | 0 => by simp [onceK]
  | k + 1 => by
    have := onceK_nodup xs k
    rw [onceK]
    split
    · exact this
    · rename_i hn
      rw [List.nodup_append]
      exact ⟨this, by simp, fun a ha b hb e => hn (by
        obtain rfl : b = xs.getD k 0 := by simpa using hb
        exact e ▸ ha)⟩
theorem onceK_mem (xs : List Int) (x : Int) : ∀ k, k ≤ xs.length → (x ∈ onceK xs k ↔ x ∈ xs.take k)
  | 0, _ => by simp [onceK]
  | k + 1, h => by
    have ih := onceK_mem xs x k (by omega)
    rw [onceK, List.take_succ_eq_append_getElem (by omega), List.mem_append, List.mem_singleton, getD_memI (by omega), ← ih]
    split
    · rename_i hm
      constructor
      · exact .inl
      · rintro (h | rfl)
        · exact h
        · exact hm
    · simp
/-- The library's Compact of a sorted list. -/
theorem compact_strict {xs : List Int} (h : xs.Pairwise (· ≤ ·)) : ∀ m, m ≤ xs.length → (Lib.compactUpTo xs.toArray m).Pairwise (· < ·) ∧ ∀ x, x ∈ Lib.compactUpTo xs.toArray m ↔ x ∈ xs.take m
  | 0, _ => by simp [Lib.compactUpTo]
  | m + 1, hm => by
    obtain ⟨h1, h2⟩ := compact_strict h m (by omega)
    have hg := List.pairwise_iff_getElem.1 h
    have em : xs.toArray[m]! = xs[m] := by simp [getElem!_pos, show m < xs.length by omega]
    rw [Lib.compactUpTo_succ, em]
    have htake : xs.take (m + 1) = xs.take m ++ [xs[m]] := List.take_succ_eq_append_getElem (by omega)
    have hle : ∀ a ∈ xs.take m, a ≤ xs[m] := by
      intro a ha
      obtain ⟨j, hj, rfl⟩ := List.mem_iff_getElem.1 ha
      rw [List.getElem_take]
      rw [List.length_take] at hj
      exact hg j m (by omega) (by omega) (by omega)
    by_cases hk : Lib.keeps xs.toArray m = true
    · rw [if_pos hk]
      have hne : ∀ a ∈ xs.take m, a < xs[m] := by
        intro a ha
        have hla := hle a ha
        rcases Int.lt_or_eq_of_le hla with h3 | h3
        · exact h3
        · exfalso
          rw [Lib.keeps, decide_eq_true_eq] at hk
          have hm0 : m ≠ 0 := by
            rintro rfl
            simp at ha
          rcases hk with hk | hk
          · exact hm0 hk
          · rw [em] at hk
            have em1 : xs.toArray[m - 1]! = xs[m - 1] := by simp [getElem!_pos, show m - 1 < xs.length by omega]
            rw [em1] at hk
            obtain ⟨j, hj, rfl⟩ := List.mem_iff_getElem.1 ha
            rw [List.length_take] at hj
            rw [List.getElem_take] at h3
            have g1 := hg (m - 1) m (by omega) (by omega) (by omega)
            rcases Nat.lt_or_ge j (m - 1) with g2 | g2
            · have := hg j (m - 1) (by omega) (by omega) g2
              omega
            · obtain rfl : j = m - 1 := by omega
              omega
      refine ⟨?_, fun x => ?_⟩
      · rw [List.pairwise_append]
        exact ⟨h1, by simp, fun a ha b hb => by
          obtain rfl : b = xs[m] := by simpa using hb
          exact hne a ((h2 a).1 ha)⟩
      · rw [List.mem_append, htake, List.mem_append, h2 x]
    · rw [if_neg hk, List.append_nil]
      refine ⟨h1, fun x => ?_⟩
      rw [htake, List.mem_append, List.mem_singleton, h2 x]
      constructor
      · exact .inl
      · rintro (h3 | rfl)
        · exact h3
        · rw [Lib.keeps, decide_eq_true_eq] at hk
          have hm0 : m ≠ 0 := fun e => hk (.inl e)
          have he : xs.toArray[m]! = xs.toArray[m - 1]! := Classical.byContradiction fun e => hk (.inr e)
          have em1 : xs.toArray[m - 1]! = xs[m - 1] := by simp [getElem!_pos, show m - 1 < xs.length by omega]
          rw [em, em1] at he
          rw [he]
          refine List.mem_iff_getElem.2 ⟨m - 1, by rw [List.length_take]; omega, ?_⟩
          rw [List.getElem_take]
theorem nodup_perm {xs ys : List Int} (h1 : xs.Nodup) (h2 : ys.Nodup) (h : ∀ x, x ∈ xs ↔ x ∈ ys) : xs.Perm ys := (List.perm_ext_iff_of_nodup h1 h2).2 h
/-- Sorted and compacted, or each once and sorted. -/
theorem compact_once (xs : List Int) : Lib.compact (sortI xs) = sortI (onceK xs xs.length) := by
  obtain ⟨h1, h2⟩ := compact_strict (sortI_sorted xs) (sortI xs).length (Nat.le_refl _)
  rw [List.take_length] at h2
  have hnd : (Lib.compactUpTo (sortI xs).toArray (sortI xs).length).Nodup := h1.imp fun h => by omega
  refine sorted_unique (h1.imp fun h => by omega) (sortI_sorted _) ((nodup_perm hnd (onceK_nodup xs _) fun x => ?_).trans (sortI_perm _).symm)
  rw [h2, (sortI_perm xs).mem_iff, onceK_mem xs x _ (Nat.le_refl _), List.take_length]
end Go.Proofs.YthncdjcmlpiebaaGreatDoor
namespace Go.Proofs.YthncdjcmlpiebaaGreatDoor
open Go.RowKit
set_option maxRecDepth 100000 in
theorem slSort_any (g n c base : Nat) (xs : List Int) (w : World) (hown : OwnI w base (some ⟨g, 0, none⟩) n c xs) (hn : n ≤ 1048576) :
    Calls Tryz.prog 135 #[.slice (some ⟨g, 0, none⟩) n c] w fun e w' => e = .returned (.tuple #[]) ∧ OwnI w' base (some ⟨g, 0, none⟩) n c (sortI xs) ∧ w.grownBy w' (some g) := by
  have hl := hown.len
  rcases hown.2 with ⟨hv, _⟩ | ⟨g', cap, cur, hv, hg, hb, h1, h2, h3, h4⟩
  · injection hv with hv; cases hv
  · injection hv with e1 e2 e3
    injection e1 with e1
    injection e1 with e1
    subst e1 e3
    have h4' : cur.toList.take xs.length = xs.map (Value.int .i64) := by rw [hl]; simpa using h4
    have hlt : g < w.heap.size := (Array.getElem?_eq_some_iff.1 hb).1
    have hcon := Any.slices_Sort_int Tryz.lays189 g 0 c xs w (holds_of_blockI hb h4') hlt (by omega)
    rw [hl] at hcon
    refine (show Calls Tryz.prog 135 #[.slice (some ⟨g, 0, none⟩) n c] w _ from hcon).mono ?_
    rintro e w' ⟨rfl, q, os, rfl⟩
    refine ⟨rfl, ?_, grownBy_sortedI _⟩
    have := ownsRow_sortedI (w := w) (base := base) (g := g) (cap := c) (n := q) (e := 3) (os := os) (ss := xs) (ts := sortI xs) (sortI_len xs) hg hb (by omega) h2 h3
    rw [hl] at this
    exact this
set_option maxRecDepth 100000 in
theorem slSort_zero (A : Option Addr) (c : Nat) (w : World) :
    Calls Tryz.prog 135 #[.slice A 0 c] w fun e w' => e = .returned (.tuple #[]) ∧ w' = w :=
  Any.slices_Sort_int_none Tryz.lays189 A c w
set_option maxRecDepth 100000 in
theorem compact_le (xs : List Int) : (Lib.compact xs).length ≤ xs.length := by
  unfold Lib.compact Lib.compactUpTo
  have := List.length_filter_le (Lib.keeps xs.toArray) (List.range xs.length)
  simpa using this
set_option maxRecDepth 100000 in
theorem slCompact_any (g n c base : Nat) (xs : List Int) (w : World) (hown : OwnI w base (some ⟨g, 0, none⟩) n c xs) (hn : n ≤ 1048576) :
    Calls Tryz.prog 91 #[.slice (some ⟨g, 0, none⟩) n c] w fun e w' => e = .returned (.slice (some ⟨g, 0, none⟩) (Lib.compact xs).length c) ∧ OwnI w' base (some ⟨g, 0, none⟩) (Lib.compact xs).length c (Lib.compact xs) ∧ w.grownBy w' (some g) := by
  have hl := hown.len
  rcases hown.2 with ⟨hv, _⟩ | ⟨g', cap, cur, hv, hg, hb, h1, h2, h3, h4⟩
  · injection hv with hv; cases hv
  · injection hv with e1 e2 e3
    injection e1 with e1
    injection e1 with e1
    subst e1 e3
    have h4' : cur.toList.take xs.length = xs.map (Value.int .i64) := by rw [hl]; simpa using h4
    have hcon := Any.slices_Compact_int Tryz.lays2n20 g 0 c xs w (holds_of_blockI hb h4') (by omega) (by omega)
    rw [hl] at hcon
    refine (show Calls Tryz.prog 91 #[.slice (some ⟨g, 0, none⟩) n c] w _ from hcon).mono ?_
    rintro e w' ⟨rfl, q, rfl⟩
    obtain ⟨zs, hzs⟩ : ∃ zs, zs = Lib.compact xs ++ List.replicate (n - (Lib.compact xs).length) (0 : Int) := ⟨_, rfl⟩
    rw [← hzs]
    have hkl : (Lib.compact xs).length ≤ n := by rw [← hl]; exact compact_le xs
    have hzl : zs.length = n := by rw [hzs, List.length_append, List.length_replicate]; omega
    have hcur : cur.size = c := by simpa using h3
    have hblk := heap_sortedI (n := q) (os := #[]) zs.toArray hb
    rw [Sort.grow_empty] at hblk
    have hgrown := grownBy_sortedI (w := w) (g := g) (n := q) (os := #[]) zs.toArray
    rw [Sort.grow_empty] at hgrown
    refine ⟨rfl, ⟨by simp, .inr ⟨g, c, _, rfl, hg, hblk, by omega, h2, by simp [Sort.putCells, hcur], ?_⟩⟩, hgrown⟩
    have ht := take_putCellsI cur zs (by omega)
    have h5 := congrArg (List.take (Lib.compact xs).length) ht
    rw [List.take_take, Nat.min_eq_left (by omega), ← List.map_take] at h5
    rw [Nat.mul_one, h5, hzs, List.take_left]
set_option maxRecDepth 100000 in
theorem slCompact_zero (A : Option Addr) (c : Nat) (w : World) :
    Calls Tryz.prog 91 #[.slice A 0 c] w fun e w' => e = .returned (.slice A 0 c) ∧ w' = w :=
  Any.slices_Compact_int_empty Tryz.lays2n20 A c w
set_option maxRecDepth 100000 in
theorem sorted_any (A : Option Addr) (n c : Nat) (xs : List Int) (w : World) (hA : RI w A n xs) (hn : n ≤ 1048576) :
    Calls Tryz.prog 89 #[.slice A n c] w fun e w' => ∃ A1 c1, e = .returned (.slice A1 n c1) ∧ OwnI w' w.heap.size A1 n c1 (sortI xs) ∧ Below w.heap.size w w' := by
  rcases Nat.eq_zero_or_pos n with rfl | h0
  · have hx : xs = [] := List.eq_nil_of_length_eq_zero hA.1
    have HS := Lib.hid (show sortI xs = [] by rw [hx]; exact List.eq_nil_of_length_eq_zero (sortI_len []))
    rw [HS.out]
    rcases A with _ | ad
    · go_enter Tryz.func89, Tryz.ntmps89
      go_wp2_with fail
      refine (Any.slices_Clone_int_nil Tryz.lays2n15 0 c w).mono ?_
      rintro e w1 ⟨rfl, rfl⟩
      go_wp2_with fail
      refine (slSort_zero none 0 _).mono ?_
      rintro e w2 ⟨rfl, rfl⟩
      go_wp2
      go_ret
      exact ⟨none, 0, rfl, OwnI.nil_ _ _, Below.refl _ _⟩
    · go_enter Tryz.func89, Tryz.ntmps89
      go_wp2_with fail
      refine (Any.slices_Clone_int_zero Tryz.lays2n15 ad c w).mono ?_
      rintro e w1 ⟨v, rfl, hown, hne, hb1⟩
      obtain ⟨A1, c1, rfl⟩ : ∃ A1 c1, v = .slice A1 0 c1 := by
        rcases hown.2 with ⟨hv, _⟩ | ⟨g, cap, cur, hv, _⟩
        · exact absurd hv hne
        · exact ⟨_, _, hv⟩
      have hown1 : OwnI w1 w.heap.size A1 0 c1 [] := hown
      clear hown hne
      go_wp2_with fail
      refine (slSort_zero A1 c1 _).mono ?_
      rintro e w2 ⟨rfl, rfl⟩
      go_wp2
      go_ret
      exact ⟨A1, c1, rfl, hown1, hb1⟩
  · obtain ⟨bd, rfl, _, _⟩ := hA.addr h0
    go_enter Tryz.func89, Tryz.ntmps89
    go_wp2_with fail
    refine (slClone_any bd n c xs w hA h0 hn).mono ?_
    rintro e w1 ⟨g, c1, rfl, hown, hb1⟩
    have hsz : w.heap.size ≤ w1.heap.size := hb1.size
    have hge := (hown.block g rfl).1
    go_wp2_with fail
    refine (slSort_any g n c1 w.heap.size xs w1 hown hn).mono ?_
    rintro e w2 ⟨rfl, hown2, hg2⟩
    have hb2 : Below w.heap.size w w2 := hb1.grown hg2 hsz fun k hk => by injection hk with hk; omega
    go_wp2
    go_ret
    exact ⟨_, c1, rfl, hown2, hb2⟩
end Go.Proofs.YthncdjcmlpiebaaGreatDoor
