/- Chapter 4, plain: induced paths, holes, claws, and their searches. No program in sight. -/
import Derived.Test.YtlcmfangecbdgaaPure12
import Derived.Test.YtlcmfangecbdgaaPureS
namespace Go.Proofs.Ytlcmfangecbdgaa
/-- Just those pairs of places are neighbours for which J holds. -/
def joinedP (Q o : List Nat) (J : Nat → Nat → Bool) : Bool := (List.range o.length).all fun k => (List.range k).all fun i => edge Q (nb o i) (nb o k) == J i k
theorem joinedP_iff {Q o : List Nat} {J : Nat → Nat → Bool} : joinedP Q o J = true ↔ ∀ k, k < o.length → ∀ i, i < k → edge Q (nb o i) (nb o k) = J i k := by
  simp only [joinedP, List.all_eq_true, List.mem_range, beq_iff_eq]
theorem joinedP_false {Q o : List Nat} {J : Nat → Nat → Bool} {i k : Nat} (hk : k < o.length) (hi : i < k) (h : edge Q (nb o i) (nb o k) ≠ J i k) : joinedP Q o J = false := by
  rw [← Bool.not_eq_true, joinedP_iff]
  exact fun e => h (e k hk i hi)
theorem joinedP_congr {Q o : List Nat} {J J' : Nat → Nat → Bool} (h : ∀ k, k < o.length → ∀ i, i < k → J i k = J' i k) : joinedP Q o J = joinedP Q o J' := by
  rw [Bool.eq_iff_iff, joinedP_iff, joinedP_iff]
  exact ⟨fun e k hk i hi => (e k hk i hi).trans (h k hk i hi), fun e k hk i hi => (e k hk i hi).trans (h k hk i hi).symm⟩
def isJoined (N : Int) (X l : List Int) (J : Nat → Nat → Bool) : Bool := isVerts N X l && joinedP (X.map Int.toNat) (l.map Int.toNat) J
theorem isJoined_no {N : Int} {X l : List Int} {J : Nat → Nat → Bool} (h : isVerts N X l = false) : isJoined N X l J = false := by rw [isJoined, h]; rfl
theorem isJoined_ok {N : Int} {Q o : List Nat} {J : Nat → Nat → Bool} (h : isVerts N (ints Q) (ints o) = true) : isJoined N (ints Q) (ints o) J = joinedP Q o J := by rw [isJoined, h, nats_ints4, nats_ints4]; rfl
theorem isVerts_cases (N : Int) (X l : List Int) : isVerts N X l = false ∨ isVerts N X l = true ∧ ∃ (n : Nat) (Q o : List Nat), N = n ∧ X = ints Q ∧ l = ints o ∧ GOk n Q ∧ natVerts n o := by
  rcases Bool.eq_false_or_eq_true (isVerts N X l) with h | h
  · refine .inr ⟨h, ?_⟩
    rw [isVerts, Bool.and_eq_true, decide_eq_true_eq] at h
    obtain ⟨hg, hv⟩ := h
    obtain ⟨n, Q, rfl, rfl, hk⟩ := isGraph_ok hg
    rw [ints_len, hk.len] at hv
    obtain ⟨o, rfl, ho⟩ := verts_nat hv
    exact ⟨n, Q, o, rfl, rfl, rfl, hk, ho⟩
  · exact .inl h
theorem isVerts_nodup {N : Int} {X : List Int} {o : List Nat} (h : isVerts N X (ints o) = true) : o.Nodup := by
  rw [isVerts, Bool.and_eq_true, decide_eq_true_eq] at h
  exact ints_nodup.1 h.2.2
def jPath (i k : Nat) : Bool := decide (k = i + 1)
def jHole (m i k : Nat) : Bool := decide (k = i + 1) || (decide (i = 0) && decide (k + 1 = m))
def jClaw (i _k : Nat) : Bool := decide (i = 0)
def isPathL (N : Int) (X l : List Int) : Bool := decide (0 < l.length) && isJoined N X l jPath
def isHoleL (N : Int) (X l : List Int) : Bool := decide (4 ≤ l.length) && isJoined N X l (jHole l.length)
def isClawL (N : Int) (X l : List Int) : Bool := decide (l.length = 4) && isJoined N X l jClaw
theorem isPathL_no {N : Int} {X l : List Int} (h : isVerts N X l = false) : isPathL N X l = false := by rw [isPathL, isJoined_no h, Bool.and_false]
theorem isHoleL_no {N : Int} {X l : List Int} (h : isVerts N X l = false) : isHoleL N X l = false := by rw [isHoleL, isJoined_no h, Bool.and_false]
theorem isClawL_no {N : Int} {X l : List Int} (h : isVerts N X l = false) : isClawL N X l = false := by rw [isClawL, isJoined_no h, Bool.and_false]
theorem isPathL_few {N : Int} {X l : List Int} (h : ¬ 0 < l.length) : isPathL N X l = false := by rw [isPathL, decide_eq_false h]; rfl
theorem isHoleL_few {N : Int} {X l : List Int} (h : ¬ 4 ≤ l.length) : isHoleL N X l = false := by rw [isHoleL, decide_eq_false h]; rfl
theorem isClawL_few {N : Int} {X l : List Int} (h : ¬ l.length = 4) : isClawL N X l = false := by rw [isClawL, decide_eq_false h]; rfl
theorem isPathL_ok {N : Int} {X l : List Int} (h : 0 < l.length) : isPathL N X l = isJoined N X l jPath := by rw [isPathL, decide_eq_true h]; rfl
theorem isHoleL_ok {N : Int} {X l : List Int} (h : 4 ≤ l.length) : isHoleL N X l = isJoined N X l (jHole l.length) := by rw [isHoleL, decide_eq_true h]; rfl
theorem isClawL_ok {N : Int} {X l : List Int} (h : l.length = 4) : isClawL N X l = isJoined N X l jClaw := by rw [isClawL, decide_eq_true h]; rfl
theorem isJoined_verts {N : Int} {X l : List Int} {J : Nat → Nat → Bool} (h : isJoined N X l J = true) : isVerts N X l = true := by rw [isJoined, Bool.and_eq_true] at h; exact h.1
theorem isPathL_verts {N : Int} {X l : List Int} (h : isPathL N X l = true) : isVerts N X l = true := by rw [isPathL, Bool.and_eq_true] at h; exact isJoined_verts h.2
theorem isHoleL_verts {N : Int} {X l : List Int} (h : isHoleL N X l = true) : isVerts N X l = true := by rw [isHoleL, Bool.and_eq_true] at h; exact isJoined_verts h.2
theorem isClawL_verts {N : Int} {X l : List Int} (h : isClawL N X l = true) : isVerts N X l = true := by rw [isClawL, Bool.and_eq_true] at h; exact isJoined_verts h.2
/-! The search for a hole of m vertices: the program's condition, the reference's. -/
def holdsH (n : Nat) (Q : List Nat) (o : List Nat) : Bool := isHoleL n (ints Q) (ints o)
def mayH (n : Nat) (Q : List Nat) (m : Nat) (o : List Nat) : Bool := decide (o.length = m) || isPathL n (ints Q) (ints o)
def mayS (n : Nat) (Q : List Nat) (m : Nat) (o : List Nat) : Bool := isPathL n (ints Q) (ints o) || (decide (o.length = m) && isHoleL n (ints Q) (ints o))
theorem mayS_nodup {n m : Nat} {Q o : List Nat} (h : mayS n Q m o = true) : o.Nodup := by
  rw [mayS, Bool.or_eq_true, Bool.and_eq_true] at h
  rcases h with h | h
  · exact isVerts_nodup (isPathL_verts h)
  · exact isVerts_nodup (isHoleL_verts h.2)
theorem snoc_nodup {l : List Nat} {v : Nat} (h : (l ++ [v]).Nodup) : v ∉ l := by
  rw [List.nodup_append] at h
  exact fun hm => h.2.2 v hm v (by simp) rfl
theorem nextOk_mayS {n m : Nat} {Q l : List Nat} {v : Nat} : nextOk (mayS n Q m) l v = mayS n Q m (l ++ [v]) := by
  rw [nextOk]
  rcases Bool.eq_false_or_eq_true (mayS n Q m (l ++ [v])) with e | e
  · rw [e, decide_eq_false (snoc_nodup (mayS_nodup e))]; rfl
  · rw [e, Bool.and_false]
theorem findSome_congr {α : Type} {f g : Nat → Option α} (n : Nat) (h : ∀ v, v < n → f v = g v) : (List.range n).findSome? f = (List.range n).findSome? g := by
  induction n with
  | zero => rfl
  | succ n ih =>
    rw [List.range_succ, List.findSome?_append, List.findSome?_append, ih fun v hv => h v (by omega)]
    congr 1
    simp [h n (by omega)]
theorem srchH_eq {n m N : Nat} {Q : List Nat} : ∀ (f : Nat) (l : List Nat), l.length + f = m → srch (mayH n Q m) (holdsH n Q) N f l = srch (mayS n Q m) (holdsH n Q) N f l
  | 0, _, _ => rfl
  | f + 1, l, hl => by
    rw [srch_step, srch_step, srchK, srchK]
    refine findSome_congr N fun v _ => ?_
    have hx : (l ++ [v]).length = l.length + 1 := by simp
    by_cases hf : f = 0
    · subst hf
      have e1 : (mayH n Q m (l ++ [v])) = true := by rw [mayH, decide_eq_true (by omega)]; rfl
      rw [srchAt, srchAt, nextOk, e1, nextOk_mayS, Bool.and_true]
      simp only [srch]
      rcases Bool.eq_false_or_eq_true (holdsH n Q (l ++ [v])) with e | e
      · have e2 : mayS n Q m (l ++ [v]) = true := by
          rw [mayS, decide_eq_true (by omega)]
          rw [holdsH] at e
          rw [e]; simp
        have e3 := snoc_nodup (isVerts_nodup (isHoleL_verts e))
        rw [e2, decide_eq_false e3]; rfl
      · rw [e]; simp
    · have e1 : mayH n Q m (l ++ [v]) = mayS n Q m (l ++ [v]) := by
        rw [mayH, mayS, decide_eq_false (by omega)]; simp
      have e2 : nextOk (mayH n Q m) l v = nextOk (mayS n Q m) l v := by rw [nextOk, nextOk, e1]
      rw [srchAt, srchAt, e2]
      split
      · exact srchH_eq f (l ++ [v]) (by omega)
      · rfl
/-- The first hole: of 4 vertices, of 5, .. -/
def holeM (n : Nat) (Q : List Nat) (m : Nat) : Option (List Nat) := srch (mayS n Q m) (holdsH n Q) n m []
def holeK (n : Nat) (Q : List Nat) : Nat → Option (List Nat)
  | 0 => none
  | k + 1 => (holeK n Q k).or (holeM n Q (k + 4))
def holeOf (N : Int) (X : List Int) : Option (List Nat) := if isGraph N X then holeK N.toNat (X.map Int.toNat) (N.toNat - 3) else none
theorem holeOf_no {N : Int} {X : List Int} (h : isGraph N X = false) : holeOf N X = none := by rw [holeOf, h]; rfl
theorem holeOf_ok {n : Nat} {Q : List Nat} (h : GOk n Q) : holeOf n (ints Q) = holeK n Q (n - 3) := by rw [holeOf, if_pos h.is, nats_ints4, Int.toNat_natCast]
theorem holeK_none {n k : Nat} {Q : List Nat} (h : holeK n Q k = none) (h2 : holeM n Q (k + 4) = none) : holeK n Q (k + 1) = none := by rw [holeK, h, h2]; rfl
theorem holeK_some {n k : Nat} {Q r : List Nat} (h : holeK n Q k = none) (h2 : holeM n Q (k + 4) = some r) : ∀ j, k < j → holeK n Q j = some r := by
  intro j hj
  induction j with
  | zero => omega
  | succ j ih =>
    rw [holeK]
    rcases Nat.lt_succ_iff_lt_or_eq.1 hj with h' | rfl
    · rw [ih h']; rfl
    · rw [h, h2]; rfl
theorem holeM_len {n m : Nat} {Q r : List Nat} (h : holeM n Q m = some r) : r.length = m := by
  have := (srch_spec h).1
  simpa using this
theorem holeK_len {n : Nat} {Q r : List Nat} : ∀ {k}, holeK n Q k = some r → r.length ≤ k + 3
  | 0, h => by cases h
  | k + 1, h => by
    rw [holeK] at h
    rcases hk : holeK n Q k with _ | q
    · rw [hk] at h
      have := holeM_len (by simpa using h)
      omega
    · rw [hk] at h
      have e : q = r := by simpa using h
      subst e
      have := holeK_len hk
      omega
/-! All lists of f vertices, numbered. -/
def digits (n : Nat) : Nat → Nat → List Nat
  | 0, _ => []
  | f + 1, c => (c / n ^ f) :: digits n f (c % n ^ f)
theorem digits_len (n : Nat) : ∀ f c, (digits n f c).length = f
  | 0, _ => rfl
  | f + 1, c => by rw [digits, List.length_cons, digits_len n f]
def hit (p : List Nat → Bool) (x : List Nat) : Option (List Nat) := if p x then some x else none
theorem findSome_range_add {α : Type} (f : Nat → Option α) (a b : Nat) : (List.range (a + b)).findSome? f = ((List.range a).findSome? f).or ((List.range b).findSome? fun j => f (a + j)) := by
  rw [List.range_add, List.findSome?_append, List.findSome?_map]; rfl
theorem findSome_range_mul {α : Type} (f : Nat → Option α) (m : Nat) : ∀ n, (List.range (n * m)).findSome? f = (List.range n).findSome? fun a => (List.range m).findSome? fun b => f (a * m + b)
  | 0 => by simp
  | n + 1 => by rw [Nat.succ_mul, findSome_range_add, findSome_range_mul f m n, List.range_succ, List.findSome?_append]; congr 1; simp
theorem srch_digits {p : List Nat → Bool} (hp : ∀ x, p x = true → x.Nodup) {n : Nat} (hn : 0 < n) : ∀ (f : Nat) (l : List Nat), srch yes p n f l = (List.range (n ^ f)).findSome? fun c => hit p (l ++ digits n f c)
  | 0, l => by simp [srch, digits, hit, List.range_succ]
  | f + 1, l => by
    rw [srch_step, srchK, Nat.pow_succ, Nat.mul_comm (n ^ f) n, findSome_range_mul]
    refine findSome_congr n fun v _ => ?_
    have hpos : 0 < n ^ f := Nat.pow_pos hn
    have e : (List.range (n ^ f)).findSome? (fun b => hit p (l ++ digits n (f + 1) (v * n ^ f + b))) = (List.range (n ^ f)).findSome? fun c => hit p ((l ++ [v]) ++ digits n f c) := by
      refine findSome_congr _ fun b hb => ?_
      have h1 : (v * n ^ f + b) / n ^ f = v := by rw [Nat.mul_comm, Nat.mul_add_div hpos, Nat.div_eq_of_lt hb, Nat.add_zero]
      have h2 : (v * n ^ f + b) % n ^ f = b := by rw [Nat.mul_comm, Nat.mul_add_mod, Nat.mod_eq_of_lt hb]
      rw [digits, h1, h2, List.append_assoc]
      rfl
    rw [e, ← srch_digits hp hn f (l ++ [v]), srchAt, nextOk]
    by_cases hv : v ∈ l
    · rw [decide_eq_true hv]
      simp only [Bool.not_true, Bool.false_and, Bool.false_eq_true, if_false]
      rw [srch_digits hp hn f (l ++ [v])]
      symm
      rw [List.findSome?_eq_none_iff]
      intro c _
      rw [hit, if_neg]
      intro hc
      have := hp _ hc
      rw [List.nodup_append, List.nodup_append] at this
      exact this.1.2.2 v hv v (by simp) rfl
    · rw [decide_eq_false hv]; rfl
/-- The first claw. -/
def holdsC (n : Nat) (Q : List Nat) (o : List Nat) : Bool := isClawL n (ints Q) (ints o)
def clawOf (N : Int) (X : List Int) : Option (List Nat) := if isGraph N X then srch yes (holdsC N.toNat (X.map Int.toNat)) N.toNat 4 [] else none
theorem clawOf_no {N : Int} {X : List Int} (h : isGraph N X = false) : clawOf N X = none := by rw [clawOf, h]; rfl
theorem clawOf_ok {n : Nat} {Q : List Nat} (h : GOk n Q) : clawOf n (ints Q) = srch yes (holdsC n Q) n 4 [] := by rw [clawOf, if_pos h.is, nats_ints4, Int.toNat_natCast]
def four (n c : Nat) : List Nat := [c / (n * n * n), c / (n * n) % n, c / n % n, c % n]
theorem digits_four {n c : Nat} : digits n 4 c = four n c := by
  have e3 : n ^ 3 = n * n * n := by rw [Nat.pow_succ, Nat.pow_succ, Nat.pow_one]
  have e2 : n ^ 2 = n * n := by rw [Nat.pow_succ, Nat.pow_one]
  have h1 : c % (n * n * n) / (n * n) = c / (n * n) % n := Nat.mod_mul_right_div_self c (n * n) n
  have h2 : c % (n * n * n) % (n * n) = c % (n * n) := Nat.mod_mul_right_mod c (n * n) n
  have h3 : c % (n * n) / n = c / n % n := Nat.mod_mul_right_div_self c n n
  have h4 : c % (n * n) % n = c % n := Nat.mod_mul_right_mod c n n
  simp only [digits, e3, e2, Nat.pow_one, Nat.pow_zero, Nat.div_one, four, h1, h2, h3, h4]
def clawK (n : Nat) (Q : List Nat) (k : Nat) : Option (List Nat) := (List.range k).findSome? fun c => hit (holdsC n Q) (four n c)
theorem clawK_zero (n : Nat) (Q : List Nat) : clawK n Q 0 = none := rfl
theorem clawK_succ (n : Nat) (Q : List Nat) (k : Nat) : clawK n Q (k + 1) = (clawK n Q k).or (hit (holdsC n Q) (four n k)) := by
  rw [clawK, List.range_succ, List.findSome?_append]
  congr 1
  simp
theorem clawK_none {n k : Nat} {Q : List Nat} (h : clawK n Q k = none) (h2 : holdsC n Q (four n k) = false) : clawK n Q (k + 1) = none := by rw [clawK_succ, h, hit, h2]; rfl
theorem clawK_some {n k : Nat} {Q : List Nat} (h : clawK n Q k = none) (h2 : holdsC n Q (four n k) = true) : ∀ j, k < j → clawK n Q j = some (four n k) := by
  intro j hj
  induction j with
  | zero => omega
  | succ j ih =>
    rw [clawK_succ]
    rcases Nat.lt_succ_iff_lt_or_eq.1 hj with h' | rfl
    · rw [ih h']; rfl
    · rw [h, hit, h2]; rfl
theorem clawK_all {n : Nat} {Q : List Nat} (h : GOk n Q) : clawOf n (ints Q) = clawK n Q (n * n * n * n) := by
  have hp : ∀ x, holdsC n Q x = true → x.Nodup := fun x hx => isVerts_nodup (isClawL_verts hx)
  rw [clawOf_ok h, srch_digits hp h.pos, clawK]
  have e : n ^ 4 = n * n * n * n := by rw [Nat.pow_succ, Nat.pow_succ, Nat.pow_succ, Nat.pow_one]
  rw [e]
  refine findSome_congr _ fun c _ => ?_
  rw [List.nil_append, digits_four]
theorem four_lt {n c : Nat} (hc : c < n * n * n * n) : ∀ v ∈ four n c, v < n := by
  have hn : 0 < n := by
    rcases Nat.eq_zero_or_pos n with h | h
    · subst h; simp at hc
    · exact h
  intro v hv
  simp only [four, List.mem_cons, List.not_mem_nil, or_false] at hv
  rcases hv with rfl | rfl | rfl | rfl
  · exact Nat.div_lt_of_lt_mul hc
  · exact Nat.mod_lt _ hn
  · exact Nat.mod_lt _ hn
  · exact Nat.mod_lt _ hn
end Go.Proofs.Ytlcmfangecbdgaa
