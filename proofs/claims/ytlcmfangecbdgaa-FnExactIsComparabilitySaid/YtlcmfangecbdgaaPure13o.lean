/- Chapter 13, plain: an edge fewer; orienting by forcing. No program in sight. -/
import Derived.Test.YtlcmfangecbdgaaPure13g
import Derived.Test.YtlcmfangecbdgaaPure2b
namespace Go.Proofs.Ytlcmfangecbdgaa
/-- The rows without the edge between v and x. -/
def delE (Q : List Nat) (v x : Nat) : List Nat := (Q.set v (dif (nb Q v) (2 ^ x))).set x (dif (nb Q x) (2 ^ v))
theorem nb_delE {Q : List Nat} {v x j : Nat} (hv : v < Q.length) (hx : x < Q.length) : nb (delE Q v x) j = if j = x then dif (nb Q x) (2 ^ v) else if j = v then dif (nb Q v) (2 ^ x) else nb Q j := by
  rw [delE, nb_set' (by simpa using hx), nb_set' hv]
theorem delE_len (Q : List Nat) (v x : Nat) : (delE Q v x).length = Q.length := by simp [delE]
theorem testBit_dif2 (a x i : Nat) : (dif a (2 ^ x)).testBit i = (a.testBit i && !decide (x = i)) := by rw [testBit_dif, Nat.testBit_two_pow]
theorem testBit_delE {Q : List Nat} {v x j i : Nat} (hv : v < Q.length) (hx : x < Q.length) (hne : v ≠ x) :
    (nb (delE Q v x) j).testBit i = ((nb Q j).testBit i && !decide (j = v ∧ i = x) && !decide (j = x ∧ i = v)) := by
  rw [nb_delE hv hx]
  by_cases h1 : j = x
  · subst h1
    rw [if_pos rfl, testBit_dif2]
    have : decide (j = v ∧ i = j) = false := decide_eq_false fun e => hne e.1.symm
    rw [this, Bool.not_false, Bool.and_true]
    congr 2
    rw [decide_eq_decide]
    exact ⟨fun e => ⟨rfl, e.symm⟩, fun e => e.2.symm⟩
  · rw [if_neg h1]
    have h3 : decide (j = x ∧ i = v) = false := decide_eq_false fun e => h1 e.1
    rw [h3, Bool.not_false, Bool.and_true]
    by_cases h2 : j = v
    · subst h2
      rw [if_pos rfl, testBit_dif2]
      congr 2
      rw [decide_eq_decide]
      exact ⟨fun e => ⟨rfl, e.symm⟩, fun e => e.2.symm⟩
    · rw [if_neg h2]
      have : decide (j = v ∧ i = x) = false := decide_eq_false fun e => h2 e.1
      rw [this, Bool.not_false, Bool.and_true]
theorem GOk.delE {n v x : Nat} {Q : List Nat} (h : GOk n Q) (hv : v < n) (hx : x < n) (hne : v ≠ x) : GOk n (delE Q v x) := by
  have hl := h.len
  refine ⟨h.pos, h.le, by rw [delE_len, hl], fun i => ?_, fun i => ?_, fun i j => ?_⟩
  · rw [nb_delE (by omega) (by omega)]
    split
    · exact dif_lt (h.lt x)
    · split
      · exact dif_lt (h.lt v)
      · exact h.lt i
  · rw [testBit_delE (by omega) (by omega) hne, h.irr i]; rfl
  · rw [testBit_delE (by omega) (by omega) hne, testBit_delE (by omega) (by omega) hne, h.sym i j, Bool.and_assoc, Bool.and_assoc]
    congr 1
    rw [Bool.and_comm]
    congr 1
    · congr 1; rw [decide_eq_decide]; exact ⟨fun e => ⟨e.2, e.1⟩, fun e => ⟨e.2, e.1⟩⟩
    · congr 1; rw [decide_eq_decide]; exact ⟨fun e => ⟨e.2, e.1⟩, fun e => ⟨e.2, e.1⟩⟩
theorem dif_bit_lt {a x : Nat} (h : a.testBit x = true) : dif a (2 ^ x) < a := by
  have := sub_bit h
  have := Nat.two_pow_pos x
  omega
theorem xor_dif {a x : Nat} (h : a.testBit x = true) : a ^^^ 2 ^ x = dif a (2 ^ x) := by
  apply Nat.eq_of_testBit_eq
  intro i
  rw [Nat.testBit_xor, testBit_dif2, Nat.testBit_two_pow]
  by_cases e : x = i
  · subst e; simp [h]
  · simp [e]
/-- Without the edge, if there is one. -/
def remE (Q : List Nat) (p : Nat × Nat) : List Nat := if edge Q p.1 p.2 then delE Q p.1 p.2 else Q
theorem remE_yes {Q : List Nat} {v x : Nat} (h : edge Q v x = true) : remE Q (v, x) = delE Q v x := by rw [remE, if_pos h]
theorem remE_no {Q : List Nat} {v x : Nat} (h : edge Q v x = false) : remE Q (v, x) = Q := by rw [remE, if_neg (by rw [h]; simp)]
theorem GOk.ne_of {n v x : Nat} {Q : List Nat} (h : GOk n Q) (e : edge Q v x = true) : v ≠ x := fun k => by
  subst k
  have := h.irr v
  rw [edge] at e
  rw [this] at e
  cases e
theorem GOk.remE {n : Nat} {Q : List Nat} {p : Nat × Nat} (h : GOk n Q) (hv : p.1 < n) (hx : p.2 < n) : GOk n (remE Q p) := by
  rw [Go.Proofs.Ytlcmfangecbdgaa.remE]
  split
  · rename_i e; exact h.delE hv hx (h.ne_of e)
  · exact h
theorem remE_le {n : Nat} {Q : List Nat} {p : Nat × Nat} (h : GOk n Q) (hv : p.1 < n) (hx : p.2 < n) (i : Nat) : nb (remE Q p) i ≤ nb Q i := by
  have hl := h.len
  rw [remE]
  split
  · rw [nb_delE (by omega) (by omega)]
    split
    · rename_i e; rw [e]; exact dif_le _ _
    · split
      · rename_i e; rw [e]; exact dif_le _ _
      · exact Nat.le_refl _
  · exact Nat.le_refl _
/-- Without the first k of a list of arcs. -/
def delL (Q : List Nat) (F : List (Nat × Nat)) : Nat → List Nat
  | 0 => Q
  | k + 1 => remE (delL Q F k) (prAt F k)
theorem GOk.delL {n : Nat} {Q : List Nat} {F : List (Nat × Nat)} (h : GOk n Q) (hF : ∀ p ∈ F, p.1 < n ∧ p.2 < n) : ∀ k, k ≤ F.length → GOk n (delL Q F k)
  | 0, _ => h
  | k + 1, hk => by
    have hp := hF (prAt F k) (by rw [prAt_eq (by omega)]; exact List.getElem_mem _)
    exact (GOk.delL h hF k (by omega)).remE hp.1 hp.2
theorem delL_le {n : Nat} {Q : List Nat} {F : List (Nat × Nat)} (h : GOk n Q) (hF : ∀ p ∈ F, p.1 < n ∧ p.2 < n) (i : Nat) : ∀ k, k ≤ F.length → nb (delL Q F k) i ≤ nb Q i
  | 0, _ => Nat.le_refl _
  | k + 1, hk => by
    have hp := hF (prAt F k) (by rw [prAt_eq (by omega)]; exact List.getElem_mem _)
    exact Nat.le_trans (remE_le (h.delL hF k (by omega)) hp.1 hp.2 i) (delL_le h hF i k (by omega))
/-- Some of the first is gone. -/
theorem delL_lt {n a b : Nat} {Q : List Nat} {F : List (Nat × Nat)} (h : GOk n Q) (hF : ∀ p ∈ F, p.1 < n ∧ p.2 < n) (h0 : prAt F 0 = (a, b)) (e : edge Q a b = true) : ∀ k, 1 ≤ k → k ≤ F.length → nb (delL Q F k) a < nb Q a
  | 0, h1, _ => by omega
  | 1, _, hk => by
    have hp := hF (prAt F 0) (by rw [prAt_eq (by omega)]; exact List.getElem_mem _)
    rw [h0] at hp
    have hl := h.len
    have hne := h.ne_of e
    show nb (remE Q (prAt F 0)) a < nb Q a
    rw [h0, remE_yes e, nb_delE (by omega) (by omega), if_neg hne, if_pos rfl]
    exact dif_bit_lt e
  | k + 2, _, hk => by
    have hp := hF (prAt F (k + 1)) (by rw [prAt_eq (by omega)]; exact List.getElem_mem _)
    exact Nat.lt_of_le_of_lt (remE_le (h.delL hF (k + 1) (by omega)) hp.1 hp.2 a) (delL_lt h hF h0 e (k + 1) (by omega) (by omega))
def phi (Q : List Nat) : Nat → Nat
  | 0 => 0
  | k + 1 => phi Q k + nb Q k
theorem phi_le {Q R : List Nat} (h : ∀ i, nb Q i ≤ nb R i) : ∀ k, phi Q k ≤ phi R k
  | 0 => Nat.le_refl _
  | k + 1 => Nat.add_le_add (phi_le h k) (h k)
theorem phi_lt {Q R : List Nat} {a : Nat} (h : ∀ i, nb Q i ≤ nb R i) (ha : nb Q a < nb R a) : ∀ k, a < k → phi Q k < phi R k
  | 0, h0 => by omega
  | k + 1, hk => by
    rw [phi, phi]
    have h1 := phi_le h k
    have h2 := h k
    rcases Nat.lt_succ_iff_lt_or_eq.1 hk with hk | rfl
    · have := phi_lt h ha k hk; omega
    · omega
theorem addK_pre (out l : List (Nat × Nat)) : ∀ k, ∃ t, addK out l k = out ++ t
  | 0 => ⟨[], by simp [addK]⟩
  | k + 1 => by
    obtain ⟨t, ht⟩ := addK_pre out l k
    rw [addK]
    split
    · exact ⟨t, ht⟩
    · exact ⟨t ++ [prAt l k], by rw [ht, List.append_assoc]⟩
theorem frcR_pre {Q : List Nat} {n : Nat} : ∀ (f : Nat) (out : List (Nat × Nat)) (i : Nat), ∃ t, frcR Q n f out i = out ++ t
  | 0, out, _ => ⟨[], by simp [frcR]⟩
  | f + 1, out, i => by
    rw [frcR]
    split
    · obtain ⟨t, ht⟩ := addK_pre out (nxt Q n (prAt out i).1 (prAt out i).2) (nxt Q n (prAt out i).1 (prAt out i).2).length
      obtain ⟨u, hu⟩ := frcR_pre (Q := Q) (n := n) f (addK out (nxt Q n (prAt out i).1 (prAt out i).2) (nxt Q n (prAt out i).1 (prAt out i).2).length) (i + 1)
      exact ⟨t ++ u, by rw [hu, ht, List.append_assoc]⟩
    · exact ⟨[], by simp⟩
/-- All that the arc a, b forces. -/
def frcA (Q : List Nat) (n a b : Nat) : List (Nat × Nat) := frcR Q n 50 [(a, b)] 0
theorem frcA_head (Q : List Nat) (n a b : Nat) : prAt (frcA Q n a b) 0 = (a, b) ∧ 1 ≤ (frcA Q n a b).length := by
  obtain ⟨t, ht⟩ := frcR_pre (Q := Q) (n := n) 50 [(a, b)] 0
  rw [frcA, ht]
  exact ⟨rfl, by simp⟩
theorem frcR_good' {Q : List Nat} {n : Nat} : ∀ (f : Nat) (out : List (Nat × Nat)) (i : Nat), Good n Q out → Good n Q (frcR Q n f out i)
  | 0, _, _, h => h
  | f + 1, out, i, h => by
    rw [frcR]
    split
    · exact frcR_good' f _ _ (h.add nxt_lt _ (Nat.le_refl _))
    · exact h
theorem frcA_good {Q : List Nat} {n a b : Nat} (ha : a < n) (hb : b < n) : Good n Q (frcA Q n a b) := frcR_good' 50 [(a, b)] 0 ⟨by simp, fun p hp => by
  obtain rfl : p = (a, b) := by simpa using hp
  exact ⟨ha, hb⟩⟩
/-- Can all edges be directed? One after another, with all that it forces. -/
def orB (n : Nat) : Nat → List Nat → Bool
  | 0, _ => true
  | f + 1, Q => if 0 < (edges Q n).length then
      if ((prAt (edges Q n) 0).2, (prAt (edges Q n) 0).1) ∈ frcA Q n (prAt (edges Q n) 0).1 (prAt (edges Q n) 0).2 then false
      else orB n f (delL Q (frcA Q n (prAt (edges Q n) 0).1 (prAt (edges Q n) 0).2) (frcA Q n (prAt (edges Q n) 0).1 (prAt (edges Q n) 0).2).length)
    else true
theorem orB_end {n f : Nat} {Q : List Nat} (h : ¬ 0 < (edges Q n).length) : orB n f Q = true := by
  cases f with
  | zero => rfl
  | succ f => rw [orB, if_neg h]
theorem orB_no {n f a b : Nat} {Q : List Nat} (h : 0 < (edges Q n).length) (h0 : prAt (edges Q n) 0 = (a, b)) (hm : (b, a) ∈ frcA Q n a b) : orB n (f + 1) Q = false := by rw [orB, if_pos h, h0, if_pos hm]
theorem orB_step {n f a b : Nat} {Q : List Nat} (h : 0 < (edges Q n).length) (h0 : prAt (edges Q n) 0 = (a, b)) (hm : (b, a) ∉ frcA Q n a b) : orB n (f + 1) Q = orB n f (delL Q (frcA Q n a b) (frcA Q n a b).length) := by rw [orB, if_pos h, h0, if_neg hm]
/-- The first edge. -/
theorem edges_first {n : Nat} {Q : List Nat} (h : 0 < (edges Q n).length) : ∃ a b, prAt (edges Q n) 0 = (a, b) ∧ a < n ∧ b < n ∧ edge Q a b = true := by
  have hm : prAt (edges Q n) 0 ∈ edges Q n := by rw [prAt_eq h]; exact List.getElem_mem _
  obtain ⟨h1, h2, h3, h4⟩ := mem_edgK.1 hm
  exact ⟨_, _, rfl, h1, h3, h4⟩
theorem phi_step {n a b : Nat} {Q : List Nat} (h : GOk n Q) (ha : a < n) (hb : b < n) (e : edge Q a b = true) : phi (delL Q (frcA Q n a b) (frcA Q n a b).length) n < phi Q n := by
  have hg := frcA_good (Q := Q) ha hb
  have hh := frcA_head Q n a b
  exact phi_lt (fun i => delL_le h hg.lt i _ (Nat.le_refl _)) (delL_lt h hg.lt hh.1 e _ hh.2 (Nat.le_refl _)) n ha
def isComp (N : Int) (X : List Int) : Bool := if isGraph N X then orB N.toNat (phi (X.map Int.toNat) N.toNat) (X.map Int.toNat) else false
theorem isComp_no {N : Int} {X : List Int} (h : isGraph N X = false) : isComp N X = false := by rw [isComp, h]; rfl
theorem isComp_ok {n : Nat} {Q : List Nat} (h : GOk n Q) : isComp n (ints Q) = orB n (phi Q n) Q := by
  have e : (ints Q).map Int.toNat = Q := by simp [ints, List.map_map, Function.comp_def]
  rw [isComp, if_pos h.is, e, Int.toNat_natCast]
end Go.Proofs.Ytlcmfangecbdgaa
