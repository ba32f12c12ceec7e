/- The great law of cliques, plain: elimination orders, colours, maximal cliques. No program in sight. The great law of chordal graphs, plain: lexicographic orders turned round are eliminations where there is no hole; eliminations shut holes out. No program in sight. The great law of chordal graphs, plain: an elimination exactly where there is no hole; what follows from it. No program in sight. The great law of chordal graphs, plain: simplicial vertices, lexicographic orders turned round, fill. No program in sight. -/
import Derived.Test.YthncdjcmlpiebaaGreatDoorQc02
namespace Go.Proofs.YthncdjcmlpiebaaGreatDoor
theorem clq_pairs {n : Nat} {Q : List Nat} (h : GOk n Q) {s : Nat} : clq Q s = true ↔ ∀ a, a < 7 → s.testBit a = true → ∀ b, s.testBit b = true → b ≠ a → edge Q a b = true := by
  rw [clq_iff]
  constructor
  · intro hc a ha hsa b hsb hne
    have := hc a ha hsa
    rw [clqAt, beq_iff_eq] at this
    have h2 := congrArg (fun x => x.testBit b) this
    simp only [testBit_dif, Nat.testBit_two_pow, hsb, Bool.true_and] at h2
    rw [decide_eq_false (Ne.symm hne)] at h2
    unfold edge
    revert h2
    cases (nb Q a).testBit b <;> simp
  · intro hp v hv hsv
    rw [clqAt, beq_iff_eq]
    apply Nat.eq_of_testBit_eq
    intro i
    rw [testBit_dif, Nat.testBit_two_pow]
    by_cases hi : v = i
    · subst hi; simp [hsv, h.irr]
    · rw [decide_eq_false hi]
      rcases Bool.eq_false_or_eq_true (s.testBit i) with hs | hs
      · have := hp v hv hsv i hs (Ne.symm hi)
        unfold edge at this
        rw [this]; simp
      · rw [hs]; rfl
theorem clq_sub {n : Nat} {Q : List Nat} (h : GOk n Q) {s t : Nat} (ht : clq Q t = true) (hs : ∀ i, s.testBit i = true → t.testBit i = true) : clq Q s = true := by
  rw [clq_pairs h] at ht ⊢
  exact fun a ha hsa b hsb hne => ht a ha (hs a hsa) b (hs b hsb) hne
def Elim (Q : List Nat) : Nat → List Nat → Prop
  | L, [] => L = 0
  | L, v :: t => v < 7 ∧ L.testBit v = true ∧ spl Q L v = true ∧ Elim Q (dif L (2 ^ v)) t
theorem elimR_elim {Q : List Nat} : ∀ {f : Nat} {acc : List Nat} {L : Nat} {r : List Nat}, L ≤ f → elimR Q f acc L = some r → ∃ t, r = acc ++ t ∧ Elim Q L t
  | 0, acc, L, r, hf, h => by cases h; exact ⟨[], by simp, by show L = 0; omega⟩
  | f + 1, acc, L, r, hf, h => by
    by_cases h0 : L = 0
    · subst h0
      rw [elimR_zero] at h
      cases h
      exact ⟨[], by simp, rfl⟩
    · rcases hs : stp Q L with _ | v
      · rw [elimR_none h0 hf hs] at h; cases h
      · rw [elimR, if_neg h0, hs] at h
        have hb := stp_bit hs
        have hp : spl Q L v = true := by
          rw [stp] at hs
          have := List.find?_some hs
          simpa using this
        have hd := dif_bit_lt hb.2
        obtain ⟨t, ht, he⟩ := elimR_elim (f := f) (acc := acc ++ [v]) (L := dif L (2 ^ v)) (r := r) (by omega) (by simpa using h)
        exact ⟨v :: t, by rw [ht]; simp, hb.1, hb.2, hp, he⟩
theorem Elim.mem {Q : List Nat} : ∀ {t : List Nat} {L : Nat}, Elim Q L t → ∀ v, v ∈ t ↔ L.testBit v = true
  | [], L, h, v => by
    have : L = 0 := h
    subst this; simp
  | u :: t, L, h, v => by
    obtain ⟨_, h2, _, h4⟩ := h
    rw [List.mem_cons, Elim.mem h4 v, testBit_dif, Nat.testBit_two_pow]
    by_cases e : v = u
    · subst e; simp [h2]
    · rw [decide_eq_false (Ne.symm e)]; simp [e]
theorem Elim.nodup {Q : List Nat} : ∀ {t : List Nat} {L : Nat}, Elim Q L t → t.Nodup
  | [], _, _ => List.nodup_nil
  | u :: t, L, h => by
    obtain ⟨_, h2, _, h4⟩ := h
    refine List.nodup_cons.2 ⟨fun hm => ?_, Elim.nodup h4⟩
    rw [Elim.mem h4, testBit_dif, Nat.testBit_two_pow, decide_eq_true rfl] at hm
    simp at hm
theorem Elim.split {Q : List Nat} : ∀ {t1 : List Nat} {v : Nat} {t2 : List Nat} {L : Nat}, Elim Q L (t1 ++ v :: t2) → ∃ L', Elim Q L' (v :: t2) ∧ ∀ i, L'.testBit i = true → L.testBit i = true
  | [], v, t2, L, h => ⟨L, h, fun _ e => e⟩
  | u :: t1, v, t2, L, h => by
    obtain ⟨_, _, _, h4⟩ := h
    obtain ⟨L', h5, h6⟩ := Elim.split h4
    refine ⟨L', h5, fun i hi => ?_⟩
    have := h6 i hi
    rw [testBit_dif, Bool.and_eq_true] at this
    exact this.1
theorem full_bit {n i : Nat} : (2 ^ n - 1).testBit i = decide (i < n) := by simp [Nat.testBit_two_pow_sub_one]
theorem Elim.order {n : Nat} {Q t : List Nat} (h : Elim Q (2 ^ n - 1) t) : natVerts n t ∧ t.length = n := by
  have h1 : natVerts n t := ⟨fun v hv => by rw [h.mem, full_bit] at hv; exact of_decide_eq_true hv, h.nodup⟩
  refine ⟨h1, ?_⟩
  have h2 := h1.len
  rcases Nat.lt_or_ge t.length n with hlt | hge
  · exfalso
    have key : ∀ m, m ≤ n → ∀ l : List Nat, l.Nodup → (∀ v, v < m → v ∈ l) → m ≤ l.length := by
      intro m
      induction m with
      | zero => intro _ l _ _; omega
      | succ m ih =>
        intro hm l hn hl
        have h5 := ih (by omega) (l.erase m) (hn.erase m) (fun v hv => (List.mem_erase_of_ne (by omega)).2 (hl v (by omega)))
        rw [List.length_erase_of_mem (hl m (by omega))] at h5
        have := List.length_pos_of_mem (hl m (by omega))
        omega
    have := key n (Nat.le_refl _) t h.nodup (fun v hv => by rw [h.mem, full_bit]; exact decide_eq_true hv)
    omega
  · omega
/-- A vertex and what is left of its neighbours: a clique. -/
def lft (Q : List Nat) (L v : Nat) : Nat := 2 ^ v ||| (nb Q v &&& L)
theorem lft_bit {Q : List Nat} {L v i : Nat} : (lft Q L v).testBit i = true ↔ i = v ∨ edge Q v i = true ∧ L.testBit i = true := by
  rw [lft, Nat.testBit_or, Nat.testBit_two_pow, Nat.testBit_and, Bool.or_eq_true, decide_eq_true_eq, Bool.and_eq_true]
  exact or_congr_left eq_comm
theorem lft_clq {n : Nat} {Q : List Nat} (h : GOk n Q) {L v : Nat} (hs : spl Q L v = true) : clq Q (lft Q L v) = true := by
  rw [spl, clq_pairs h] at hs
  rw [clq_pairs h]
  intro a ha hsa b hsb hne
  rw [lft_bit] at hsa hsb
  rcases hsa with rfl | ⟨e1, l1⟩
  · rcases hsb with rfl | ⟨e2, l2⟩
    · exact absurd rfl hne
    · exact e2
  · rcases hsb with rfl | ⟨e2, l2⟩
    · rw [h.edge_comm]; exact e1
    · exact hs a ha (by rw [Nat.testBit_and, l1, Bool.and_true]; exact e1) b (by rw [Nat.testBit_and, l2, Bool.and_true]; exact e2) hne
theorem nb_big {n : Nat} {Q : List Nat} (h : GOk n Q) {v i : Nat} (e : edge Q v i = true) : i < n := by
  refine Classical.byContradiction fun hn => ?_
  have := Nat.testBit_lt_two_pow (Nat.lt_of_lt_of_le (h.lt v) (Nat.pow_le_pow_right (n := 2) (by omega) (by omega : n ≤ i)))
  unfold edge at e
  rw [this] at e; cases e
theorem lft_lt {n : Nat} {Q : List Nat} (h : GOk n Q) {L v : Nat} (hv : v < n) : lft Q L v < 2 ^ n := by
  refine Nat.lt_pow_two_of_testBit _ fun i hi => ?_
  rw [← Bool.not_eq_true, lft_bit]
  rintro (rfl | ⟨e, _⟩)
  · omega
  · have := nb_big h e; omega
def chn (Q : List Nat) : Nat → List Nat → List Nat
  | _, [] => []
  | L, v :: t => lft Q L v :: chn Q (dif L (2 ^ v)) t
theorem chn_len (Q : List Nat) : ∀ (t : List Nat) (L : Nat), (chn Q L t).length = t.length
  | [], _ => rfl
  | _ :: t, _ => by rw [chn, List.length_cons, List.length_cons, chn_len Q t]
theorem chn_has {n : Nat} {Q : List Nat} (h : GOk n Q) {s : Nat} (hc : clq Q s = true) (h0 : s ≠ 0) : ∀ {t : List Nat} {L : Nat}, Elim Q L t → (∀ i, s.testBit i = true → L.testBit i = true) → (∀ i, L.testBit i = true → i < n) → ∃ S ∈ chn Q L t, clq Q S = true ∧ S < 2 ^ n ∧ ∀ i, s.testBit i = true → S.testBit i = true
  | [], L, he, hs, _ => by
    have : L = 0 := he
    subst this
    refine absurd (Nat.eq_of_testBit_eq fun i => ?_) h0
    rw [Nat.zero_testBit]
    rcases Bool.eq_false_or_eq_true (s.testBit i) with e | e
    · have := hs i e; simp at this
    · exact e
  | v :: t, L, he, hs, hL => by
    obtain ⟨h7, hb, hsp, h4⟩ := he
    rcases Bool.eq_false_or_eq_true (s.testBit v) with e | e
    · refine ⟨lft Q L v, List.mem_cons_self .., lft_clq h hsp, lft_lt h (hL v hb), fun i hi => ?_⟩
      rw [lft_bit]
      by_cases hiv : i = v
      · exact .inl hiv
      · exact .inr ⟨(clq_pairs h).1 hc v h7 e i hi hiv, hs i hi⟩
    · obtain ⟨S, hS, h5⟩ := chn_has h hc h0 h4 (fun i hi => by
        rw [testBit_dif, hs i hi, Nat.testBit_two_pow]
        have : v ≠ i := fun e' => by subst e'; rw [e] at hi; cases hi
        rw [decide_eq_false this]; rfl) (fun i hi => by
        rw [testBit_dif, Bool.and_eq_true] at hi
        exact hL i hi.1)
      exact ⟨S, List.mem_cons_of_mem _ hS, h5⟩
theorem standsK_all {Q : List Nat} {s : Nat} : ∀ {n : Nat}, standsK Q s n = true → ∀ v, v < n → stands Q s v = true
  | 0, _, v, hv => absurd hv (by omega)
  | n + 1, h, v, hv => by
    rw [standsK, Bool.and_eq_true] at h
    rcases Nat.lt_succ_iff_lt_or_eq.1 hv with h' | rfl
    · exact standsK_all h.1 v h'
    · exact h.2
/-- A maximal clique lies in no greater one. -/
theorem maxi_top {n : Nat} {Q : List Nat} (h : GOk n Q) {s S : Nat} (hm : maxi Q n s = true) (hS : clq Q S = true) (hn : S < 2 ^ n) (hs : ∀ i, s.testBit i = true → S.testBit i = true) : s = S := by
  rw [maxi, Bool.and_eq_true] at hm
  apply Nat.eq_of_testBit_eq
  intro u
  rcases Bool.eq_false_or_eq_true (S.testBit u) with hu | hu
  · rw [hu]
    have hun : u < n := bit_lt hn hu
    have := standsK_all hm.2 u hun
    rw [stands, Bool.or_eq_true] at this
    rcases Bool.eq_false_or_eq_true (s.testBit u) with h1 | hsu
    · exact h1
    · exfalso
      rw [hsu, bne_iff_ne] at this
      refine (this.resolve_left Bool.false_ne_true) (Nat.eq_of_testBit_eq fun i => ?_)
      rw [testBit_dif, Nat.zero_testBit]
      rcases Bool.eq_false_or_eq_true (s.testBit i) with hi | hi
      · have hiu : i ≠ u := fun e => by subst e; rw [hsu] at hi; cases hi
        have := (clq_pairs h).1 hS u (by have := h.le; omega) hu i (hs i hi) hiu
        unfold edge at this
        rw [this, hi]; rfl
      · rw [hi]; rfl
  · rw [hu]
    rcases Bool.eq_false_or_eq_true (s.testBit u) with e | e
    · rw [hs u e] at hu; cases hu
    · exact e
theorem maxK_nodupG (Q : List Nat) (n : Nat) : ∀ k, (maxK Q n k).Nodup ∧ ∀ s ∈ maxK Q n k, s ≤ k
  | 0 => ⟨List.nodup_nil, fun _ h => by cases h⟩
  | k + 1 => by
    obtain ⟨h1, h2⟩ := maxK_nodupG Q n k
    rw [maxK]
    split
    · refine ⟨List.nodup_append.2 ⟨h1, by simp, fun a ha b hb e => ?_⟩, fun s hs => ?_⟩
      · obtain rfl : b = k + 1 := by simpa using hb
        subst e
        have := h2 _ ha
        omega
      · rcases List.mem_append.1 hs with hs | hs
        · have := h2 s hs; omega
        · obtain rfl : s = k + 1 := by simpa using hs
          exact Nat.le_refl _
    · rw [List.append_nil]
      exact ⟨h1, fun s hs => by have := h2 s hs; omega⟩
theorem nodup_sub : ∀ {l m : List Nat}, l.Nodup → (∀ x ∈ l, x ∈ m) → l.length ≤ m.length
  | [], _, _, _ => by simp
  | a :: l, m, hn, hs => by
    rw [List.nodup_cons] at hn
    have ha := hs a (List.mem_cons_self ..)
    have := nodup_sub (m := m.erase a) hn.2 (fun x hx => (List.mem_erase_of_ne (fun e => by subst e; exact hn.1 hx)).2 (hs x (List.mem_cons_of_mem _ hx)))
    rw [List.length_erase_of_mem ha] at this
    have := List.length_pos_of_mem ha
    rw [List.length_cons]
    omega
/-- A graph with an elimination order has at most as many maximal cliques as vertices. -/
theorem maxCliques_few {n : Nat} {Q t : List Nat} (h : GOk n Q) (he : Elim Q (2 ^ n - 1) t) : (maxCliques Q n).length ≤ n := by
  have h1 : (maxCliques Q n).length ≤ (chn Q (2 ^ n - 1) t).length := by
    refine nodup_sub (maxK_nodupG Q n _).1 fun s hs => ?_
    obtain ⟨hp, hle, hm⟩ := mem_maxK hs
    have hlt : s < 2 ^ n := by have := Nat.two_pow_pos n; omega
    have hm' := hm
    rw [maxi, Bool.and_eq_true] at hm'
    obtain ⟨S, hS, hc, hl, hsub⟩ := chn_has h hm'.1 (by omega) he (fun i hi => by rw [full_bit]; exact decide_eq_true (bit_lt hlt hi)) (fun i hi => by rw [full_bit] at hi; exact of_decide_eq_true hi)
    rw [maxi_top h hm hc hl hsub]
    exact hS
  rw [chn_len, he.order.2] at h1
  exact h1
theorem take_mem {o : List Nat} {k v : Nat} : v ∈ o.take k ↔ ∃ i, i < k ∧ i < o.length ∧ nb o i = v := by
  rw [List.mem_take_iff_getElem]
  constructor
  · rintro ⟨i, hi, rfl⟩
    exact ⟨i, by omega, by omega, by simp [nb, List.getD, List.getElem?_eq_getElem (show i < o.length by omega)]⟩
  · rintro ⟨i, h1, h2, rfl⟩
    exact ⟨i, by omega, by simp [nb, List.getD, List.getElem?_eq_getElem h2]⟩
end Go.Proofs.YthncdjcmlpiebaaGreatDoor
namespace Go.Proofs.YthncdjcmlpiebaaGreatDoor
/-- A hole: at least four vertices on a ring, no other edges among them. -/
def HoleP (n : Nat) (Q o : List Nat) : Prop := natVerts n o ∧ 4 ≤ o.length ∧ joinedP Q o (jHole o.length) = true
/-- The order's own law: whoever is preferred has an earlier reason. -/
def LBP (n : Nat) (Q o : List Nat) : Prop := ∀ a b c, a < b → b < c → c < n → edge Q (nb o a) (nb o c) = true → edge Q (nb o a) (nb o b) = false → ∃ d, d < a ∧ edge Q (nb o d) (nb o b) = true ∧ edge Q (nb o d) (nb o c) = false
theorem labL_head {Q : List Nat} {b c : Nat} {l : List Nat} {i : Nat} (hi : i < l.length) (hlt : labL Q b (l.take i) < labL Q c (l.take i)) : ∀ k, i ≤ k → k ≤ l.length → labL Q b (l.take k) < labL Q c (l.take k)
  | 0, h, _ => by obtain rfl : i = 0 := by omega
                  exact hlt
  | k + 1, h, hk => by
    rcases Nat.lt_or_ge i (k + 1) with h' | h'
    · have ih := labL_head hi hlt k (by omega) (by omega)
      rw [labL_take (by omega), labL_take (by omega)]
      cases edge Q b (nb l k) <;> cases edge Q c (nb l k) <;> simp <;> omega
    · obtain rfl : i = k + 1 := by omega
      exact hlt
theorem labL_same {Q : List Nat} {b c : Nat} {l : List Nat} : ∀ i, i ≤ l.length → (∀ j, j < i → edge Q b (nb l j) = true → edge Q c (nb l j) = true) → labL Q b (l.take i) ≤ labL Q c (l.take i)
  | 0, _, _ => by simp [labL]
  | i + 1, hi, h => by
    have ih := labL_same i (by omega) (fun j hj => h j (by omega))
    rw [labL_take (by omega), labL_take (by omega)]
    have := h i (by omega)
    cases hb : edge Q b (nb l i)
    · cases edge Q c (nb l i) <;> simp <;> omega
    · rw [this hb]; simp; omega
theorem labL_reason {Q : List Nat} {b c : Nat} {l : List Nat} (h : labL Q c l ≤ labL Q b l) {i : Nat} (hi : i < l.length) (hc : edge Q c (nb l i) = true) (hb : edge Q b (nb l i) = false) : ∃ j, j < i ∧ edge Q b (nb l j) = true ∧ edge Q c (nb l j) = false := by
  refine Classical.byContradiction fun hno => ?_
  have hall : ∀ j, j < i → edge Q b (nb l j) = true → edge Q c (nb l j) = true := fun j hj e => by
    rcases Bool.eq_false_or_eq_true (edge Q c (nb l j)) with h' | h'
    · exact h'
    · exact absurd ⟨j, hj, e, h'⟩ hno
  have h1 := labL_same i (by omega) hall
  have h2 : labL Q b (l.take (i + 1)) < labL Q c (l.take (i + 1)) := by
    rw [labL_take hi, labL_take hi, hb, hc]; simp; omega
  have h3 : labL Q b (l.take l.length) < labL Q c (l.take l.length) := by
    rcases Nat.lt_or_ge (i + 1) l.length with h' | h'
    · exact labL_head h' h2 l.length (by omega) (Nat.le_refl _)
    · obtain e : i + 1 = l.length := by omega
      rw [e] at h2; exact h2
  rw [List.take_length] at h3
  omega
theorem bestL_top {Q l : List Nat} : ∀ {k c : Nat}, c < k → c ∉ l → 0 ≤ bestL Q l k ∧ labL Q c l ≤ labL Q (bestL Q l k).toNat l
  | 0, c, h, _ => by omega
  | k + 1, c, h, hm => by
    rw [bestL]
    by_cases hc : k ∉ l ∧ (bestL Q l k < 0 ∨ labL Q (bestL Q l k).toNat l < labL Q k l)
    · rw [if_pos hc]
      refine ⟨by omega, ?_⟩
      rw [Int.toNat_natCast]
      rcases Nat.lt_succ_iff_lt_or_eq.1 h with h' | rfl
      · have ih := bestL_top (Q := Q) h' hm
        rcases hc.2 with h2 | h2
        · omega
        · omega
      · exact Nat.le_refl _
    · rw [if_neg hc]
      rcases Nat.lt_succ_iff_lt_or_eq.1 h with h' | rfl
      · exact bestL_top h' hm
      · by_cases h0 : bestL Q l c < 0
        · exact absurd ⟨hm, .inl h0⟩ hc
        · refine ⟨by omega, ?_⟩
          rcases Nat.lt_or_ge (labL Q (bestL Q l c).toNat l) (labL Q c l) with h2 | h2
          · exact absurd ⟨hm, .inr h2⟩ hc
          · exact h2
/-- What has been set stays. -/
theorem lexR_prefix {Q : List Nat} {n : Nat} : ∀ {f : Nat} {l : List Nat}, ∃ t, lexR Q n f l = l ++ t
  | 0, l => ⟨[], by simp [lexR]⟩
  | f + 1, l => by
    obtain ⟨t, ht⟩ := lexR_prefix (Q := Q) (n := n) (f := f) (l := l ++ [(bestL Q l n).toNat])
    exact ⟨(bestL Q l n).toNat :: t, by rw [lexR, ht]; simp⟩
theorem lexR_lb {n : Nat} {Q : List Nat} (h : GOk n Q) : ∀ {f : Nat} {l : List Nat}, natVerts n l → l.length + f = n → (∀ a b c, a < b → b < l.length → b < c → c < n → edge Q (nb (lexR Q n f l) a) (nb (lexR Q n f l) c) = true → edge Q (nb (lexR Q n f l) a) (nb (lexR Q n f l) b) = false → ∃ d, d < a ∧ edge Q (nb (lexR Q n f l) d) (nb (lexR Q n f l) b) = true ∧ edge Q (nb (lexR Q n f l) d) (nb (lexR Q n f l) c) = false) → LBP n Q (lexR Q n f l)
  | 0, l, hv, hl, hh => fun a b c h1 h2 h3 h4 h5 => hh a b c h1 (by omega) h2 h3 h4 h5
  | f + 1, l, hv, hl, hh => by
    obtain ⟨v, h1, h2, h3, h4⟩ := bestL_next Q hv (by omega)
    have hr : lexR Q n (f + 1) l = lexR Q n f (l ++ [v]) := by rw [lexR, h3, Int.toNat_natCast]
    rw [hr] at hh ⊢
    obtain ⟨t, ht⟩ := lexR_prefix (Q := Q) (n := n) (f := f) (l := l ++ [v])
    have hvs := lexR_verts (Q := Q) (f := f) h4 (by simp; omega)
    refine lexR_lb h h4 (by simp; omega) fun a b c hab hb hbc hc e1 e2 => ?_
    rw [List.length_append, List.length_singleton] at hb
    rcases Nat.lt_or_ge b l.length with h' | h'
    · exact hh a b c hab h' hbc hc e1 e2
    · obtain rfl : b = l.length := by omega
      obtain ⟨o, ho⟩ : ∃ o, o = lexR Q n f (l ++ [v]) := ⟨_, rfl⟩
      rw [← ho] at e1 e2 ht hvs ⊢
      have hob : nb o l.length = v := by rw [ht]; simp [nb, List.getD]
      have hoa : ∀ j, j < l.length → nb o j = nb l j := fun j hj => by
        rw [ht]
        simp [nb, List.getD, List.getElem?_append_left (show j < l.length by omega)]
      have hcm : nb o c ∉ l := fun hm => by
        obtain ⟨j, hj, e⟩ := List.mem_iff_getElem.1 hm
        have e' : nb o j = nb o c := by rw [hoa j hj, ← e]; simp [nb, List.getD, List.getElem?_eq_getElem hj]
        have := hvs.1.inj (by omega) (by omega) e'
        omega
      have htop := bestL_top (Q := Q) (l := l) (hvs.1.at_ (j := c) (by omega)) hcm
      rw [h3, Int.toNat_natCast] at htop
      rw [hoa a hab] at e1 e2
      rw [hob] at e2 ⊢
      obtain ⟨d, hd, k1, k2⟩ := labL_reason htop.2 hab (by rw [h.edge_comm]; exact e1) (by rw [h.edge_comm]; exact e2)
      refine ⟨d, hd, ?_, ?_⟩
      · rw [hoa d (by omega), h.edge_comm]; exact k1
      · rw [hoa d (by omega), h.edge_comm]; exact k2
theorem lex_lb {n s : Nat} {Q : List Nat} (h : GOk n Q) (hs : s < n) : LBP n Q (lexR Q n (n - 1) [s]) :=
  lexR_lb h (one_verts hs) (by have := h.pos; simp; omega) (fun a b c h1 h2 => by simp at h2; omega)
theorem least_of (P : Nat → Prop) [DecidablePred P] : ∀ m, P m → ∃ j, j ≤ m ∧ P j ∧ ∀ i, i < j → ¬ P i
  | 0, h => ⟨0, Nat.le_refl _, h, fun i hi => absurd hi (by omega)⟩
  | m + 1, h => by
    by_cases hx : ∃ i, i ≤ m ∧ P i
    · obtain ⟨i, hi, hp⟩ := hx
      induction i using Nat.strongRecOn with
      | _ i ih =>
        by_cases hy : ∃ k, k < i ∧ P k
        · obtain ⟨k, hk, hpk⟩ := hy
          exact ih k hk (by omega) hpk
        · exact ⟨i, by omega, hp, fun k hk hpk => hy ⟨k, hk, hpk⟩⟩
    · exact ⟨m + 1, Nat.le_refl _, h, fun i hi hp => hx ⟨i, by omega, hp⟩⟩
theorem nb_map {f : Nat → Nat} {m i : Nat} (h : i < m) : nb ((List.range m).map f) i = f i := by
  simp [nb, List.getD, List.getElem?_map, List.getElem?_range h]
theorem nodup_map {f : Nat → Nat} {m : Nat} (h : ∀ i k, i < k → k < m → f i ≠ f k) : ((List.range m).map f).Nodup := by
  rw [List.Nodup, List.pairwise_map]
  refine List.Pairwise.imp_of_mem (R := fun a b => a < b) (fun {a b} ha hb hab => h a b hab (List.mem_range.1 hb)) ?_
  exact List.pairwise_lt_range
theorem no_path {n : Nat} {Q o : List Nat} (h : GOk n Q) (ho : natVerts n o) (hl : o.length = n) (hlb : LBP n Q o) (hno : ∀ r, ¬ HoleP n Q r) :
    ∀ (m len : Nat) (p : Nat → Nat), 2 ≤ len → (∀ i, i ≤ len → p i < n) → (∀ i k, i < k → k ≤ len → p i ≠ p k) → (∀ i k, i < k → k ≤ len → edge Q (nb o (p i)) (nb o (p k)) = decide (k = i + 1)) → p 0 < p len → p len = m → (∀ i, 0 < i → i < len → m < p i) → False := by
  intro m
  induction m using Nat.strongRecOn with
  | _ m ih =>
    intro len p h2 hn hinj hind h0 hm hint
    have e1 : edge Q (nb o (p 0)) (nb o (p 1)) = true := by rw [hind 0 1 (by omega) (by omega)]; rfl
    have e2 : edge Q (nb o (p 0)) (nb o (p len)) = false := by rw [hind 0 len (by omega) (Nat.le_refl _)]; exact decide_eq_false (by omega)
    have h1m := hint 1 (by omega) (by omega)
    obtain ⟨d, hd, d1, d2⟩ := hlb (p 0) (p len) (p 1) h0 (by omega) (hn 1 (by omega)) e1 e2
    have hge : ∀ i, i ≤ len → p 0 ≤ p i := fun i hi => by
      rcases Nat.eq_zero_or_pos i with rfl | hi0
      · exact Nat.le_refl _
      · rcases Nat.lt_or_ge i len with h' | h'
        · have := hint i hi0 h'; omega
        · obtain rfl : i = len := by omega
          omega
    -- the first place behind 1 that d is joined to
    obtain ⟨j, hj, ⟨hj2, hjd⟩, hjl⟩ := least_of (fun i => 2 ≤ i ∧ edge Q (nb o d) (nb o (p i)) = true) len ⟨h2, d1⟩
    have hoff : ∀ i, 0 < i → i < j → edge Q (nb o d) (nb o (p i)) = false := fun i hi0 hij => by
      rcases Nat.lt_or_ge i 2 with h' | h'
      · obtain rfl : i = 1 := by omega
        exact d2
      · rw [← Bool.not_eq_true]
        exact fun e => hjl i hij ⟨h', e⟩
    rcases Bool.eq_false_or_eq_true (edge Q (nb o d) (nb o (p 0))) with hd0 | hd0
    · -- a hole
      obtain ⟨f, hf⟩ : ∃ f : Nat → Nat, f = fun i => nb o (if i = 0 then d else p (i - 1)) := ⟨_, rfl⟩
      have hff : ∀ i, f (i + 1) = nb o (p i) := fun i => by rw [hf]; rfl
      have hf0 : f 0 = nb o d := by rw [hf]; rfl
      refine hno ((List.range (j + 2)).map f) ⟨⟨fun v hv => ?_, nodup_map fun i k hik hk => ?_⟩, by simp; omega, ?_⟩
      · obtain ⟨i, hi, rfl⟩ := List.mem_map.1 hv
        rw [List.mem_range] at hi
        rcases i with _ | i
        · rw [hf0]; exact ho.at_ (by have := hn 0 (by omega); omega)
        · rw [hff]; exact ho.at_ (by rw [hl]; exact hn i (by omega))
      · obtain ⟨k, rfl⟩ : ∃ k', k = k' + 1 := ⟨k - 1, by omega⟩
        rw [hff]
        rcases i with _ | i
        · rw [hf0]
          intro e
          have := ho.inj (by have := hn 0 (by omega); omega) (by rw [hl]; exact hn k (by omega)) e
          have := hge k (by omega)
          omega
        · rw [hff]
          intro e
          exact hinj i k (by omega) (by omega) (ho.inj (by rw [hl]; exact hn i (by omega)) (by rw [hl]; exact hn k (by omega)) e)
      · rw [joinedP_iff]
        intro k hk i hik
        rw [List.length_map, List.length_range] at hk ⊢
        rw [nb_map (by omega), nb_map hk]
        obtain ⟨k, rfl⟩ : ∃ k', k = k' + 1 := ⟨k - 1, by omega⟩
        rw [hff]
        unfold jHole
        rcases i with _ | i
        · rw [hf0]
          rcases Nat.eq_zero_or_pos k with rfl | hk0
          · rw [hd0]; simp
          · rcases Nat.lt_or_ge k j with h' | h'
            · rw [hoff k hk0 h']
              simp; omega
            · obtain rfl : k = j := by omega
              rw [hjd]; simp
        · rw [hff, hind i k (by omega) (by omega)]
          simp
    · -- a way again, that ends earlier
      obtain ⟨q, hq⟩ : ∃ q : Nat → Nat, q = fun i => if i = 0 then d else p (j + 1 - i) := ⟨_, rfl⟩
      have hq0 : q 0 = d := by rw [hq]; rfl
      have hqs : ∀ i, 0 < i → q i = p (j + 1 - i) := fun i hi => by rw [hq]; exact if_neg (by omega)
      refine ih (p 0) (by omega) (j + 1) q (by omega) (fun i hi => ?_) (fun i k hik hk => ?_) (fun i k hik hk => ?_) ?_ ?_ (fun i hi0 hi => ?_)
      · rcases Nat.eq_zero_or_pos i with rfl | hi0
        · rw [hq0]; have := hn 0 (by omega); omega
        · rw [hqs i hi0]; exact hn _ (by omega)
      · rw [hqs k (by omega)]
        rcases Nat.eq_zero_or_pos i with rfl | hi0
        · rw [hq0]; have := hge (j + 1 - k) (by omega); omega
        · rw [hqs i hi0]
          exact fun e => hinj (j + 1 - k) (j + 1 - i) (by omega) (by omega) e.symm
      · rw [hqs k (by omega)]
        rcases Nat.eq_zero_or_pos i with rfl | hi0
        · rw [hq0]
          rcases Nat.lt_or_ge 1 k with h' | h'
          · have hkj : edge Q (nb o d) (nb o (p (j + 1 - k))) = false := by
              rcases Nat.lt_or_ge k (j + 1) with h3 | h3
              · exact hoff _ (by omega) (by omega)
              · have : j + 1 - k = 0 := by omega
                rw [this]; exact hd0
            rw [hkj]; symm; exact decide_eq_false (by omega)
          · obtain rfl : k = 1 := by omega
            rw [show j + 1 - 1 = j by omega, hjd]; rfl
        · rw [hqs i hi0, h.edge_comm, hind (j + 1 - k) (j + 1 - i) (by omega) (by omega)]
          exact decide_eq_decide.2 (by omega)
      · rw [hq0, hqs (j + 1) (by omega)]
        rw [show j + 1 - (j + 1) = 0 by omega]; exact hd
      · rw [hqs (j + 1) (by omega), show j + 1 - (j + 1) = 0 by omega]
      · rw [hqs i hi0]
        have hik := hint (j + 1 - i) (by omega)
        rcases Nat.lt_or_ge (j + 1 - i) len with h' | h'
        · have := hik h'; omega
        · have : j + 1 - i = len := by omega
          rw [this]; exact h0
/-- Two earlier neighbours of a vertex are neighbours. -/
theorem lb_clique {n : Nat} {Q o : List Nat} (h : GOk n Q) (ho : natVerts n o) (hl : o.length = n) (hlb : LBP n Q o) (hno : ∀ r, ¬ HoleP n Q r) {x y v : Nat} (hxy : x < y) (hyv : y < v) (hv : v < n) (e1 : edge Q (nb o x) (nb o v) = true) (e2 : edge Q (nb o y) (nb o v) = true) : edge Q (nb o x) (nb o y) = true := by
  rcases Bool.eq_false_or_eq_true (edge Q (nb o x) (nb o y)) with e | e
  · exact e
  · exfalso
    obtain ⟨p, hp⟩ : ∃ p : Nat → Nat, p = fun i => if i = 0 then x else if i = 1 then v else y := ⟨_, rfl⟩
    have p0 : p 0 = x := by rw [hp]; rfl
    have p1 : p 1 = v := by rw [hp]; rfl
    have p2 : p 2 = y := by rw [hp]; rfl
    refine no_path h ho hl hlb hno y 2 p (Nat.le_refl _) (fun i hi => ?_) (fun i k hik hk => ?_) (fun i k hik hk => ?_) (by rw [p0, p2]; exact hxy) p2 (fun i hi0 hi => ?_)
    · match i, hi with
      | 0, _ => rw [p0]; omega
      | 1, _ => rw [p1]; omega
      | 2, _ => rw [p2]; omega
    · have : (i = 0 ∧ k = 1) ∨ (i = 0 ∧ k = 2) ∨ (i = 1 ∧ k = 2) := by omega
      rcases this with ⟨rfl, rfl⟩ | ⟨rfl, rfl⟩ | ⟨rfl, rfl⟩
      · rw [p0, p1]; omega
      · rw [p0, p2]; omega
      · rw [p1, p2]; omega
    · have : (i = 0 ∧ k = 1) ∨ (i = 0 ∧ k = 2) ∨ (i = 1 ∧ k = 2) := by omega
      rcases this with ⟨rfl, rfl⟩ | ⟨rfl, rfl⟩ | ⟨rfl, rfl⟩
      · rw [p0, p1, e1]; rfl
      · rw [p0, p2, e]; rfl
      · rw [p1, p2, h.edge_comm, e2]; rfl
    · obtain rfl : i = 1 := by omega
      rw [p1]; exact hyv
end Go.Proofs.YthncdjcmlpiebaaGreatDoor
namespace Go.Proofs.YthncdjcmlpiebaaGreatDoor
theorem pos_of {o : List Nat} {v : Nat} (h : v ∈ o) : ∃ x, x < o.length ∧ nb o x = v := ⟨place o v, place_lt h, place_at h⟩
theorem bit_of {L : Nat} (h : L ≠ 0) : ∃ i, L.testBit i = true := Classical.byContradiction fun hn => h (Nat.eq_of_testBit_eq fun i => by
  rw [Nat.zero_testBit]
  rcases Bool.eq_false_or_eq_true (L.testBit i) with e | e
  · exact absurd ⟨i, e⟩ hn
  · exact e)
theorem edge_irr {n : Nat} {Q : List Nat} (h : GOk n Q) (v : Nat) : edge Q v v = false := by
  have := h.irr v
  unfold edge
  exact this
/-- What is left holds a vertex whose neighbours in it are a clique. -/
theorem spl_last {n : Nat} {Q o : List Nat} (h : GOk n Q) (ho : natVerts n o) (hl : o.length = n) (hlb : LBP n Q o) (hno : ∀ r, ¬ HoleP n Q r) {L : Nat} (hL : ∀ i, L.testBit i = true → i < n) (h0 : L ≠ 0) : ∃ v, v < 7 ∧ L.testBit v = true ∧ spl Q L v = true := by
  obtain ⟨u, hu⟩ := bit_of h0
  obtain ⟨p, hp, rfl⟩ := pos_of (ho.all hl (hL u hu))
  obtain ⟨j, hj, hP, hlast⟩ := least_of (fun j => L.testBit (nb o (n - 1 - j)) = true) (n - 1 - p) (by rw [show n - 1 - (n - 1 - p) = p by omega]; exact hu)
  obtain ⟨q, hq⟩ : ∃ q, q = n - 1 - j := ⟨_, rfl⟩
  rw [← hq] at hP
  have hqn : q < n := by omega
  have hafter : ∀ x, q < x → x < n → L.testBit (nb o x) = false := fun x h1 h2 => by
    have := hlast (n - 1 - x) (by omega)
    rw [show n - 1 - (n - 1 - x) = x by omega] at this
    exact Bool.eq_false_iff.2 this
  have hle := h.le
  refine ⟨nb o q, by have := hL _ hP; omega, hP, ?_⟩
  rw [spl, clq_pairs h]
  have key : ∀ a, (nb Q (nb o q) &&& L).testBit a = true → ∃ x, x < q ∧ nb o x = a ∧ edge Q (nb o x) (nb o q) = true := fun a ha => by
    rw [Nat.testBit_and, Bool.and_eq_true] at ha
    obtain ⟨h1, h2⟩ := ha
    obtain ⟨x, hx, rfl⟩ := pos_of (ho.all hl (hL a h2))
    rw [hl] at hx
    have hxq : x ≠ q := fun e => by
      subst e
      have := edge_irr h (nb o x)
      rw [edge, h1] at this; cases this
    refine ⟨x, ?_, rfl, ?_⟩
    · rcases Nat.lt_trichotomy x q with h' | h' | h'
      · exact h'
      · exact absurd h' hxq
      · rw [hafter x h' hx] at h2; cases h2
    · rw [h.edge_comm]; exact h1
  intro a ha hsa b hsb hne
  obtain ⟨x, hx, rfl, ex⟩ := key a hsa
  obtain ⟨y, hy, rfl, ey⟩ := key b hsb
  rcases Nat.lt_trichotomy x y with h' | h' | h'
  · exact lb_clique h ho hl hlb hno h' hy hqn ex ey
  · subst h'; exact absurd rfl hne
  · rw [h.edge_comm]; exact lb_clique h ho hl hlb hno h' hx hqn ey ex
theorem elimR_runs {n : Nat} {Q : List Nat} (h : GOk n Q) (hno : ∀ r, ¬ HoleP n Q r) : ∀ (f : Nat) (acc : List Nat) (L : Nat), L ≤ f → (∀ i, L.testBit i = true → i < n) → (elimR Q f acc L).isSome = true
  | 0, acc, L, _, _ => rfl
  | f + 1, acc, L, hf, hL => by
    by_cases h0 : L = 0
    · subst h0; rw [elimR_zero]; rfl
    · obtain ⟨v, hv, hb, hs⟩ := spl_last h (lexR_order (s := 0) h h.pos).1 (lexR_order (s := 0) h h.pos).2 (lex_lb h h.pos) hno hL h0
      rcases hst : stp Q L with _ | u
      · rw [stp, List.find?_eq_none] at hst
        exact absurd hs (hst v (mem_listOf.2 ⟨hv, hb⟩))
      · have hd := dif_bit_lt (stp_bit hst).2
        rw [elimR, if_neg h0, hst]
        exact elimR_runs h hno f (acc ++ [u]) (dif L (2 ^ u)) (by omega) fun i hi => hL i (by
          rw [testBit_dif, Bool.and_eq_true] at hi
          exact hi.1)
/-- An elimination shuts holes out. -/
theorem elim_no_hole {n : Nat} {Q o : List Nat} (h : GOk n Q) (hh : HoleP n Q o) : ∀ {t : List Nat} {L : Nat}, Elim Q L t → (∀ v ∈ o, L.testBit v = true) → False
  | [], L, he, hs => by
    have : L = 0 := he
    subst this
    have h4 := hh.2.1
    have := hs (nb o 0) (nb_mem (by omega))
    simp at this
  | v :: t, L, he, hs => by
    obtain ⟨h7, hb, hsp, hd⟩ := he
    by_cases hv : v ∈ o
    · obtain ⟨i, hi, rfl⟩ := pos_of hv
      obtain ⟨ho, h4, hj⟩ := hh
      rw [joinedP_iff] at hj
      rw [spl, clq_pairs h] at hsp
      have hle := h.le
      have pair : ∀ a b, a < o.length → b < o.length → a < b → edge Q (nb o i) (nb o a) = true → edge Q (nb o i) (nb o b) = true → jHole o.length a b = true := fun a b ha hb' hab e1 e2 => by
        rw [← hj b hb' a hab]
        have e3 : ∀ x, x < o.length → edge Q (nb o i) (nb o x) = true → (nb Q (nb o i) &&& L).testBit (nb o x) = true := fun x hx e => by
          rw [Nat.testBit_and, hs _ (nb_mem hx), Bool.and_true]; exact e
        refine hsp _ (by have := ho.at_ (j := a) ha; omega) (e3 a ha e1) _ (e3 b hb' e2) fun e => ?_
        have := place_nb ho ha
        have := place_nb ho hb'
        rw [e] at this
        omega
      have jn : ∀ a b, a < b → b < o.length → jHole o.length a b = true → edge Q (nb o a) (nb o b) = true := fun a b hab hb' e => by rw [hj b hb' a hab]; exact e
      have jt : ∀ a b, jHole o.length a b = true ↔ b = a + 1 ∨ a = 0 ∧ b + 1 = o.length := fun a b => by simp [jHole]
      rcases Nat.eq_zero_or_pos i with rfl | hi0
      · have := (jt 1 (o.length - 1)).1 (pair 1 (o.length - 1) (by omega) (by omega) (by omega) (jn 0 1 (by omega) (by omega) ((jt 0 1).2 (by omega))) (jn 0 (o.length - 1) (by omega) (by omega) ((jt _ _).2 (by omega))))
        omega
      · rcases Nat.lt_or_ge (i + 1) o.length with hl | hl
        · have := (jt (i - 1) (i + 1)).1 (pair (i - 1) (i + 1) (by omega) (by omega) (by omega) (by rw [h.edge_comm]; exact jn (i - 1) i (by omega) (by omega) ((jt _ _).2 (by omega))) (jn i (i + 1) (by omega) (by omega) ((jt _ _).2 (by omega))))
          omega
        · have := (jt 0 (i - 1)).1 (pair 0 (i - 1) (by omega) (by omega) (by omega) (by rw [h.edge_comm]; exact jn 0 i (by omega) (by omega) ((jt _ _).2 (by omega))) (by rw [h.edge_comm]; exact jn (i - 1) i (by omega) (by omega) ((jt _ _).2 (by omega))))
          omega
    · exact elim_no_hole h hh hd fun x hx => by
        rw [testBit_dif, Nat.testBit_two_pow, hs x hx, decide_eq_false (show ¬ v = x from fun e => hv (by rw [e]; exact hx))]; rfl
/-- The search finds what there is. -/
theorem srch_found {may holds : List Nat → Bool} {N : Nat} : ∀ {f : Nat} {l t : List Nat}, t.length = f → (l ++ t).Nodup → (∀ v ∈ t, v < N) → (∀ k, 0 < k → k ≤ t.length → may (l ++ t.take k) = true) → holds (l ++ t) = true → srch may holds N f l ≠ none
  | 0, l, t, hl, _, _, _, hh => by
    obtain rfl : t = [] := List.length_eq_zero_iff.1 hl
    rw [List.append_nil] at hh
    rw [srch, if_pos hh]; exact Option.some_ne_none _
  | f + 1, l, [], hl, _, _, _, _ => by simp at hl
  | f + 1, l, v :: t, hl, hn, hN, hm, hh => by
    intro hs
    rw [srch_step, srchK, List.findSome?_eq_none_iff] at hs
    have h1 := hs v (List.mem_range.2 (hN v (List.mem_cons_self ..)))
    have hv : v ∉ l := fun hv => by
      rw [List.nodup_append] at hn
      exact hn.2.2 v hv v (List.mem_cons_self ..) rfl
    have h2 : may (l ++ [v]) = true := by simpa using hm 1 (by omega) (by simp)
    rw [srchAt_on (by rw [nextOk, decide_eq_false hv, h2]; rfl)] at h1
    refine srch_found (f := f) (l := l ++ [v]) (t := t) (by simpa using hl) (by simpa using hn) (fun u hu => hN u (List.mem_cons_of_mem _ hu)) (fun k hk hk2 => ?_) (by simpa using hh) h1
    have := hm (k + 1) (by omega) (by simpa using hk2)
    simpa using this
theorem isVerts_nat {n : Nat} {Q o : List Nat} (h : GOk n Q) (ho : natVerts n o) : isVerts n (ints Q) (ints o) = true := by rw [isVerts_ok h]; exact decide_eq_true (nat_verts.2 ho)
theorem isHole_iff {n : Nat} {Q o : List Nat} (h : GOk n Q) : isHoleL n (ints Q) (ints o) = true ↔ HoleP n Q o := by
  constructor
  · intro hh
    have hv := isHoleL_verts hh
    rw [isHoleL, Bool.and_eq_true, decide_eq_true_eq, isJoined_ok hv, ints_len] at hh
    rw [isVerts_ok h, decide_eq_true_eq] at hv
    exact ⟨nat_verts.1 hv, hh.1, hh.2⟩
  · intro hh
    rw [isHoleL_ok (by rw [ints_len]; exact hh.2.1), isJoined_ok (isVerts_nat h hh.1), ints_len]
    exact hh.2.2
theorem natVerts.sub {n : Nat} {o t : List Nat} (ho : natVerts n o) (h : t.Sublist o) : natVerts n t := ⟨fun v hv => ho.1 v (h.subset hv), ho.2.sublist h⟩
theorem holeK_all {n : Nat} {Q : List Nat} : ∀ {k}, holeK n Q k = none → ∀ j, j < k → holeM n Q (j + 4) = none
  | 0, _, j, hj => absurd hj (by omega)
  | k + 1, h, j, hj => by
    rw [holeK] at h
    rcases hk : holeK n Q k with _ | r
    · rw [hk, Option.none_or] at h
      rcases Nat.lt_succ_iff_lt_or_eq.1 hj with h' | rfl
      · exact holeK_all hk j h'
      · exact h
    · rw [hk, Option.some_or] at h; cases h
theorem hole_found {n : Nat} {Q o : List Nat} (h : GOk n Q) (hh : HoleP n Q o) : holeM n Q o.length ≠ none := by
  refine srch_found (l := []) rfl (by simpa using hh.1.2) hh.1.1 (fun k h0 hk => ?_) (by simpa [holdsH] using (isHole_iff h).2 hh)
  rw [List.nil_append]
  rcases Nat.lt_or_ge k o.length with hk' | hk'
  · have hlen : (o.take k).length = k := by simp; omega
    have hv := hh.1.sub (List.take_sublist k o)
    have hj := hh.2.2
    rw [joinedP_iff] at hj
    have : isPathL n (ints Q) (ints (o.take k)) = true := by
      rw [isPathL_ok (by rw [ints_len, hlen]; exact h0), isJoined_ok (isVerts_nat h hv), joinedP_iff, hlen]
      intro x hx i hi
      have e : ∀ y, y < k → nb (o.take k) y = nb o y := fun y hy => by simp [nb, List.getD, hy]
      rw [e x hx, e i (by omega), hj x (by omega) i hi, jHole, jPath]
      rw [decide_eq_false (show ¬ x + 1 = o.length by omega), Bool.and_false, Bool.or_false]
    rw [mayS, this]; rfl
  · rw [List.take_of_length_le hk', mayS, (isHole_iff h).2 hh, decide_eq_true rfl]; simp
theorem holeOf_none {n : Nat} {Q : List Nat} (h : GOk n Q) (hn : holeOf n (ints Q) = none) (r : List Nat) : ¬ HoleP n Q r := fun hh => by
  rw [holeOf_ok h] at hn
  have h1 := hh.1.len
  have h4 := hh.2.1
  have := holeK_all hn (r.length - 4) (by omega)
  rw [show r.length - 4 + 4 = r.length by omega] at this
  exact hole_found h hh this
theorem holeK_holds {n : Nat} {Q r : List Nat} : ∀ {k}, holeK n Q k = some r → isHoleL n (ints Q) (ints r) = true
  | 0, h => by cases h
  | k + 1, h => by
    rw [holeK] at h
    rcases hk : holeK n Q k with _ | q
    · rw [hk, Option.none_or] at h
      exact (srch_spec h).2.1
    · rw [hk, Option.some_or] at h; cases h
      exact holeK_holds hk
theorem holeOf_some {n : Nat} {Q r : List Nat} (h : GOk n Q) (hs : holeOf n (ints Q) = some r) : HoleP n Q r := by
  rw [holeOf_ok h] at hs
  exact (isHole_iff h).1 (holeK_holds hs)
theorem graph_cases (N : Int) (X : List Int) : isGraph N X = false ∨ ∃ (k : Nat) (Q : List Nat), N = k ∧ X = ints Q ∧ GOk k Q := by
  rcases Bool.eq_false_or_eq_true (isGraph N X) with e | e
  · obtain ⟨n, Q, h1, h2, h3⟩ := isGraph_ok e
    exact .inr ⟨n, Q, h1, h2, h3⟩
  · exact .inl e
/-- A graph has an elimination exactly if it has no hole. -/
theorem chordal_iff (N : Int) (X : List Int) : (elimOf N X).isSome = (isGraph N X && !(holeOf N X).isSome) := by
  rcases graph_cases N X with hg | ⟨n, Q, rfl, rfl, h⟩
  · rw [elimOf_no hg, hg]; rfl
  · rw [h.is, Bool.true_and, elimOf_ok h]
    rcases ho : holeOf n (ints Q) with _ | r
    · exact elimR_runs h (holeOf_none h ho) _ _ _ (full_lt h.le) fun i hi => by rw [full_bit] at hi; exact of_decide_eq_true hi
    · have hr := holeOf_some h ho
      rcases he : elimR Q 127 [] (2 ^ n - 1) with _ | t
      · rfl
      · exfalso
        obtain ⟨t', rfl, hE⟩ := elimR_elim (full_lt h.le) he
        exact elim_no_hole h hr hE fun v hv => by rw [full_bit]; exact decide_eq_true (hr.1.1 v hv)
end Go.Proofs.YthncdjcmlpiebaaGreatDoor
namespace Go.Proofs.YthncdjcmlpiebaaGreatDoor
theorem isOrder_nat {n : Nat} {Q o : List Nat} (h : GOk n Q) (ho : natVerts n o) (hl : o.length = n) : isOrder n (ints Q) (ints o) = true := by
  rw [isOrder_yes]
  · rw [ints_len, hl]; simp
  · exact isVerts_nat h ho
theorem graph_ext {n : Nat} {A B : List Nat} (hA : GOk n A) (hB : GOk n B) (he : ∀ x y, x < n → y < n → edge A x y = edge B x y) : A = B := by
  have e1 : ∀ x, x < n → nb A x = nb B x := fun x hx => Nat.eq_of_testBit_eq fun y => by
    rcases Nat.lt_or_ge y n with hy | hy
    · exact he x y hx hy
    · have h1 := Nat.testBit_lt_two_pow (Nat.lt_of_lt_of_le (hA.lt x) (Nat.pow_le_pow_right (n := 2) (by omega) hy))
      have h2 := Nat.testBit_lt_two_pow (Nat.lt_of_lt_of_le (hB.lt x) (Nat.pow_le_pow_right (n := 2) (by omega) hy))
      rw [h1, h2]
  refine List.ext_getElem (by rw [hA.len, hB.len]) fun i h1 h2 => ?_
  have := e1 i (by have := hA.len; omega)
  simpa [nb, List.getD, List.getElem?_eq_getElem h1, List.getElem?_eq_getElem h2] using this
/-- The program's way: a row at a time. -/
def joinI (Q : List Nat) (L : Nat) : Nat → List Nat
  | 0 => Q
  | k + 1 => (joinI Q L k).set (nb (listOf L) k) (nb (joinI Q L k) (nb (listOf L) k) ||| dif L (2 ^ nb (listOf L) k))
theorem joinI_len (Q : List Nat) (L : Nat) : ∀ k, (joinI Q L k).length = Q.length
  | 0 => rfl
  | k + 1 => by rw [joinI, List.length_set, joinI_len Q L k]
theorem listOf_nb {L k : Nat} (hk : k < (listOf L).length) : nb (listOf L) k < 7 ∧ L.testBit (nb (listOf L) k) = true := mem_listOf.1 (nb_mem hk)
theorem joinI_bit {n : Nat} {Q : List Nat} (hQ : Q.length = n) {L : Nat} (hL : ∀ i, L.testBit i = true → i < n) (i j : Nat) : ∀ k, k ≤ (listOf L).length →
    ((nb (joinI Q L k) j).testBit i = true ↔ (nb Q j).testBit i = true ∨ j ∈ (listOf L).take k ∧ L.testBit i = true ∧ i ≠ j)
  | 0, _ => by simp [joinI]
  | k + 1, hk => by
    have hw := listOf_nb (L := L) (k := k) (by omega)
    have hwn := hL _ hw.2
    have ih := joinI_bit hQ hL i j k (by omega)
    have et : ∀ x, x ∈ (listOf L).take (k + 1) ↔ x ∈ (listOf L).take k ∨ x = nb (listOf L) k := fun x => by rw [take_snocN (by omega)]; simp
    rw [joinI, nb_set' (by rw [joinI_len, hQ]; exact hwn)]
    by_cases e : j = nb (listOf L) k
    · rw [if_pos e, Nat.testBit_or, Bool.or_eq_true, testBit_dif, Nat.testBit_two_pow, ← e, ih, et, Bool.and_eq_true, Bool.not_eq_true', decide_eq_false_iff_not]
      constructor
      · rintro (h | ⟨h1, h2⟩)
        · rcases h with h | ⟨h1, h2⟩
          · exact .inl h
          · exact .inr ⟨.inl h1, h2⟩
        · exact .inr ⟨.inr e, h1, fun e => h2 e.symm⟩
      · rintro (h | ⟨_, h2, h3⟩)
        · exact .inl (.inl h)
        · exact .inr ⟨h2, fun e => h3 e.symm⟩
    · rw [if_neg e, ih, et]
      constructor
      · rintro (h | ⟨h1, h2⟩)
        · exact .inl h
        · exact .inr ⟨.inl h1, h2⟩
      · rintro (h | ⟨h1 | h1, h2⟩)
        · exact .inl h
        · exact .inr ⟨h1, h2⟩
        · exact absurd h1 e
/-- All vertices of L joined. -/
def joinG (Q : List Nat) (L : Nat) : List Nat := joinI Q L (listOf L).length
theorem joinG_bit {n : Nat} {Q : List Nat} (h : GOk n Q) {L : Nat} (hL : ∀ i, L.testBit i = true → i < n) (i j : Nat) :
    (nb (joinG Q L) j).testBit i = true ↔ (nb Q j).testBit i = true ∨ L.testBit j = true ∧ L.testBit i = true ∧ i ≠ j := by
  rw [joinG, joinI_bit h.len hL i j _ (Nat.le_refl _), List.take_length, mem_listOf]
  constructor
  · rintro (h | ⟨h1, h2⟩)
    · exact .inl h
    · exact .inr ⟨h1.2, h2⟩
  · rintro (h1 | ⟨h1, h2⟩)
    · exact .inl h1
    · exact .inr ⟨⟨by have := hL j h1; have := h.le; omega, h1⟩, h2⟩
theorem GOk.joinG {n : Nat} {Q : List Nat} (h : GOk n Q) {L : Nat} (hL : ∀ i, L.testBit i = true → i < n) : GOk n (joinG Q L) := by
  refine ⟨h.pos, h.le, by rw [Proofs.YthncdjcmlpiebaaGreatDoor.joinG, joinI_len, h.len], fun i => ?_, fun i => ?_, fun i j => ?_⟩
  · refine Nat.lt_pow_two_of_testBit _ fun x hx => ?_
    rw [← Bool.not_eq_true, joinG_bit h hL]
    rintro (h1 | ⟨_, h2, _⟩)
    · have := nb_big h h1; omega
    · have := hL x h2; omega
  · rw [← Bool.not_eq_true, joinG_bit h hL, h.irr]
    rintro (h1 | ⟨_, _, h3⟩)
    · cases h1
    · exact h3 rfl
  · rw [Bool.eq_iff_iff, joinG_bit h hL, joinG_bit h hL, h.sym i j]
    constructor
    · rintro (h1 | ⟨h1, h2, h3⟩)
      · exact .inl h1
      · exact .inr ⟨h2, h1, fun e => h3 e.symm⟩
    · rintro (h1 | ⟨h1, h2, h3⟩)
      · exact .inl h1
      · exact .inr ⟨h2, h1, fun e => h3 e.symm⟩
/-- The reference's way: an edge at a time. -/
def joinB (H l : List Nat) (a : Nat) : Nat → List Nat
  | 0 => H
  | b + 1 => addE (joinB H l a b) (nb l a) (nb l b)
def joinA (Q l : List Nat) : Nat → List Nat
  | 0 => Q
  | a + 1 => joinB (joinA Q l a) l a a
theorem listK_nodup (L : Nat) : ∀ k, (listK L k).Nodup ∧ ∀ x ∈ listK L k, x < k
  | 0 => ⟨List.nodup_nil, fun x hx => by cases hx⟩
  | k + 1 => by
    obtain ⟨h1, h2⟩ := listK_nodup L k
    rw [listK_succ]
    split
    · refine ⟨List.nodup_append.2 ⟨h1, by simp, fun a ha b hb e => ?_⟩, fun x hx => ?_⟩
      · rw [List.mem_singleton] at hb
        have := h2 a ha
        omega
      · rw [List.mem_append, List.mem_singleton] at hx
        rcases hx with hx | rfl
        · have := h2 x hx; omega
        · omega
    · rw [List.append_nil]
      exact ⟨h1, fun x hx => by have := h2 x hx; omega⟩
theorem listOf_nodup (L : Nat) : (listOf L).Nodup := (listK_nodup L 7).1
theorem listOf_asc {L i k : Nat} (hik : i < k) (hk : k < (listOf L).length) : nb (listOf L) i ≠ nb (listOf L) k := fun e => by
  have h1 := listOf_nodup L
  have e1 : nb (listOf L) i = (listOf L)[i]'(by omega) := by simp [nb, List.getD, List.getElem?_eq_getElem (show i < (listOf L).length by omega)]
  have e2 : nb (listOf L) k = (listOf L)[k] := by simp [nb, List.getD, List.getElem?_eq_getElem hk]
  rw [e1, e2] at e
  exact List.pairwise_iff_getElem.1 h1 i k (by omega) hk hik e
theorem joinB_ok {n : Nat} {H l : List Nat} (h : GOk n H) {a : Nat} (ha : nb l a < n) : ∀ b, (∀ y, y < b → nb l y < n ∧ nb l a ≠ nb l y) → GOk n (joinB H l a b) ∧ ∀ i j, (nb (joinB H l a b) j).testBit i = true ↔ (nb H j).testBit i = true ∨ ∃ y, y < b ∧ (j = nb l a ∧ i = nb l y ∨ j = nb l y ∧ i = nb l a)
  | 0, _ => ⟨h, fun i j => by simp [joinB]⟩
  | b + 1, hy => by
    obtain ⟨h1, h2⟩ := joinB_ok h ha b fun y hb => hy y (by omega)
    obtain ⟨h3, h4⟩ := hy b (by omega)
    refine ⟨h1.addE ha h3 h4, fun i j => ?_⟩
    rw [joinB, testBit_addE (by rw [h1.len]; exact ha) (by rw [h1.len]; exact h3) h4, Bool.or_eq_true, Bool.or_eq_true, h2 i j, decide_eq_true_eq, decide_eq_true_eq]
    constructor
    · rintro (((h' | ⟨y, hy, h'⟩) | h') | h')
      · exact .inl h'
      · exact .inr ⟨y, by omega, h'⟩
      · exact .inr ⟨b, by omega, .inl h'⟩
      · exact .inr ⟨b, by omega, .inr h'⟩
    · rintro (h' | ⟨y, hy, h'⟩)
      · exact .inl (.inl (.inl h'))
      · rcases Nat.lt_succ_iff_lt_or_eq.1 hy with hy | rfl
        · exact .inl (.inl (.inr ⟨y, hy, h'⟩))
        · rcases h' with h' | h'
          · exact .inl (.inr h')
          · exact .inr h'
theorem joinA_ok {n : Nat} {Q : List Nat} (h : GOk n Q) {L : Nat} (hL : ∀ i, L.testBit i = true → i < n) : ∀ a, a ≤ (listOf L).length → GOk n (joinA Q (listOf L) a) ∧ ∀ i j, (nb (joinA Q (listOf L) a) j).testBit i = true ↔ (nb Q j).testBit i = true ∨ ∃ x y, x < a ∧ y < x ∧ (j = nb (listOf L) x ∧ i = nb (listOf L) y ∨ j = nb (listOf L) y ∧ i = nb (listOf L) x)
  | 0, _ => ⟨h, fun i j => by simp [joinA]⟩
  | a + 1, ha => by
    obtain ⟨h1, h2⟩ := joinA_ok h hL a (by omega)
    obtain ⟨h3, h4⟩ := joinB_ok h1 (l := listOf L) (a := a) (hL _ (listOf_nb (by omega)).2) a fun y hy => ⟨hL _ (listOf_nb (by omega)).2, fun e => listOf_asc hy (by omega) e.symm⟩
    refine ⟨h3, fun i j => ?_⟩
    rw [joinA, h4, h2]
    constructor
    · rintro ((h' | ⟨x, y, hx, hy, h'⟩) | ⟨y, hy, h'⟩)
      · exact .inl h'
      · exact .inr ⟨x, y, by omega, hy, h'⟩
      · exact .inr ⟨a, y, by omega, hy, h'⟩
    · rintro (h' | ⟨x, y, hx, hy, h'⟩)
      · exact .inl (.inl h')
      · rcases Nat.lt_succ_iff_lt_or_eq.1 hx with hx | rfl
        · exact .inl (.inr ⟨x, y, hx, hy, h'⟩)
        · exact .inr ⟨y, hy, h'⟩
theorem joinA_joinG {n : Nat} {Q : List Nat} (h : GOk n Q) {L : Nat} (hL : ∀ i, L.testBit i = true → i < n) : joinA Q (listOf L) (listOf L).length = joinG Q L := by
  obtain ⟨h1, h2⟩ := joinA_ok h hL _ (Nat.le_refl _)
  refine graph_ext h1 (h.joinG hL) fun j i _ _ => ?_
  rw [edge, edge, Bool.eq_iff_iff, h2 i j, joinG_bit h hL i j]
  have pos : ∀ v, L.testBit v = true → ∃ x, x < (listOf L).length ∧ nb (listOf L) x = v := fun v hv => pos_of (mem_listOf.2 ⟨by have := hL v hv; have := h.le; omega, hv⟩)
  constructor
  · rintro (h' | ⟨x, y, hx, hy, h'⟩)
    · exact .inl h'
    · have hne := listOf_asc hy hx
      have b1 := (listOf_nb hx).2
      have b2 := (listOf_nb (L := L) (k := y) (by omega)).2
      rcases h' with ⟨rfl, rfl⟩ | ⟨rfl, rfl⟩
      · exact .inr ⟨b1, b2, hne⟩
      · exact .inr ⟨b2, b1, fun e => hne e.symm⟩
  · rintro (h' | ⟨h3, h4, h5⟩)
    · exact .inl h'
    · obtain ⟨x, hx, rfl⟩ := pos j h3
      obtain ⟨y, hy, rfl⟩ := pos i h4
      rcases Nat.lt_trichotomy x y with h' | h' | h'
      · exact .inr ⟨y, x, hy, h', .inr ⟨rfl, rfl⟩⟩
      · subst h'; exact absurd rfl h5
      · exact .inr ⟨x, y, hx, h', .inl ⟨rfl, rfl⟩⟩
/-- The first k vertices of the order eliminated. -/
def fillK (Q o : List Nat) : Nat → List Nat
  | 0 => Q
  | k + 1 => joinG (fillK Q o k) (ltr (fillK Q o k) o (nb o k))
theorem ltr_low {n : Nat} {Q : List Nat} (h : GOk n Q) (o : List Nat) (v : Nat) : ∀ i, (ltr Q o v).testBit i = true → i < n := fun i hi => by
  rw [ltr, Nat.testBit_and, Bool.and_eq_true] at hi
  exact nb_big h hi.1
theorem fillK_ok {n : Nat} {Q o : List Nat} (h : GOk n Q) : ∀ k, GOk n (fillK Q o k)
  | 0 => h
  | k + 1 => (fillK_ok h k).joinG (ltr_low (fillK_ok h k) o _)
end Go.Proofs.YthncdjcmlpiebaaGreatDoor
