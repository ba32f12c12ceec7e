/- Chapters 4 and 5, plain: lists of vertices, orders. No program in sight. -/
import Derived.Test.YtfodbgogeclifaaPure3
namespace Go.Proofs.Ytfodbgogeclifaa
/-- Different vertices of a graph of n. -/
def vertsP (n : Nat) (l : List Int) : Prop := (∀ v ∈ l, 0 ≤ v ∧ v < (n : Int)) ∧ l.Nodup
instance (n : Nat) (l : List Int) : Decidable (vertsP n l) := inferInstanceAs (Decidable (_ ∧ _))
def isVerts (N : Int) (X l : List Int) : Bool := isGraph N X && decide (vertsP X.length l)
def isOrder (N : Int) (X l : List Int) : Bool := isVerts N X l && decide ((l.length : Int) = N)
theorem isVerts_no {N : Int} {X l : List Int} (h : isGraph N X = false) : isVerts N X l = false := by rw [isVerts, h]; rfl
theorem isVerts_ok {n : Nat} {Q : List Nat} {l : List Int} (h : GOk n Q) : isVerts n (ints Q) l = decide (vertsP n l) := by rw [isVerts, h.is, ints_len, h.len]; rfl
theorem isOrder_no {N : Int} {X l : List Int} (h : isVerts N X l = false) : isOrder N X l = false := by rw [isOrder, h]; rfl
theorem isOrder_yes {N : Int} {X l : List Int} (h : isVerts N X l = true) : isOrder N X l = decide ((l.length : Int) = N) := by rw [isOrder, h]; rfl
/-- The same, of natural numbers. -/
def natVerts (n : Nat) (o : List Nat) : Prop := (∀ v ∈ o, v < n) ∧ o.Nodup
theorem verts_nat {n : Nat} {l : List Int} (h : vertsP n l) : ∃ o : List Nat, l = ints o ∧ natVerts n o := by
  refine ⟨l.map Int.toNat, ?_, ?_, ?_⟩
  · rw [ints, List.map_map]
    symm
    rw [List.map_congr_left (g := id) (fun v hv => by have := h.1 v hv; simp only [Function.comp_apply, id]; omega)]
    simp
  · intro v hv
    obtain ⟨x, hx, rfl⟩ := List.mem_map.1 hv
    have := h.1 x hx
    omega
  · refine (List.nodup_map_iff_inj_on_ h.2).2 fun x hx y hy e => ?_
    have := h.1 x hx
    have := h.1 y hy
    omega
where
  List.nodup_map_iff_inj_on_ {l : List Int} (hn : l.Nodup) : (l.map Int.toNat).Nodup ↔ ∀ x ∈ l, ∀ y ∈ l, x.toNat = y.toNat → x = y := by
    induction l with
    | nil => simp
    | cons a l ih =>
      rw [List.nodup_cons] at hn
      rw [List.map_cons, List.nodup_cons, ih hn.2]
      constructor
      · rintro ⟨h1, h2⟩ x hx y hy e
        rcases List.mem_cons.1 hx with e1 | hx1 <;> rcases List.mem_cons.1 hy with e2 | hy1
        · rw [e1, e2]
        · exact absurd (List.mem_map.2 ⟨y, hy1, by rw [← e, e1]⟩) h1
        · exact absurd (List.mem_map.2 ⟨x, hx1, by rw [e, e2]⟩) h1
        · exact h2 x hx1 y hy1 e
      · intro h
        refine ⟨fun hm => ?_, fun x hx y hy => h x (List.mem_cons_of_mem _ hx) y (List.mem_cons_of_mem _ hy)⟩
        obtain ⟨y, hy, e⟩ := List.mem_map.1 hm
        have := h a (List.mem_cons_self ..) y (List.mem_cons_of_mem _ hy) e.symm
        subst this
        exact hn.1 hy
theorem ints_mem {o : List Nat} {v : Int} : v ∈ ints o ↔ ∃ x ∈ o, (x : Int) = v := by simp [ints]
theorem ints_mem' {o : List Nat} {x : Nat} : (x : Int) ∈ ints o ↔ x ∈ o := by
  rw [ints_mem]
  exact ⟨fun ⟨y, hy, e⟩ => by obtain rfl : y = x := by omega
                              exact hy, fun h => ⟨x, h, rfl⟩⟩
theorem ints_nodup {o : List Nat} : (ints o).Nodup ↔ o.Nodup := by
  induction o with
  | nil => simp [ints]
  | cons a o ih =>
    have e : ints (a :: o) = (a : Int) :: ints o := rfl
    rw [e, List.nodup_cons, List.nodup_cons, ih, ints_mem']
theorem nat_verts {n : Nat} {o : List Nat} : vertsP n (ints o) ↔ natVerts n o := by
  rw [vertsP, natVerts, ints_nodup]
  refine and_congr_left' ⟨fun h v hv => ?_, fun h v hv => ?_⟩
  · have := h v (ints_mem'.2 hv); omega
  · obtain ⟨x, hx, rfl⟩ := ints_mem.1 hv
    have := h x hx
    omega
theorem natVerts.len {n : Nat} {o : List Nat} (h : natVerts n o) : o.length ≤ n := by
  have : ∀ (n : Nat) (o : List Nat), (∀ v ∈ o, v < n) → o.Nodup → o.length ≤ n := by
    intro n
    induction n with
    | zero =>
      intro o h _
      cases o with
      | nil => simp
      | cons a o => exact absurd (h a (List.mem_cons_self ..)) (by omega)
    | succ n ih =>
      intro o h hn
      have h1 := ih (o.erase n) (fun v hv => by
        have h2 := h v (List.mem_of_mem_erase hv)
        have h3 : v ≠ n := fun e => by subst e; exact (List.Nodup.not_mem_erase hn) hv
        omega) (hn.erase n)
      by_cases hm : n ∈ o
      · rw [List.length_erase_of_mem hm] at h1; omega
      · rw [List.erase_of_not_mem hm] at h1; omega
  exact this n o h.1 h.2
/-- An order: all vertices. -/
theorem natVerts.all {n : Nat} {o : List Nat} (h : natVerts n o) (hl : o.length = n) {v : Nat} (hv : v < n) : v ∈ o := by
  refine Classical.byContradiction fun hm => ?_
  have h1 : natVerts n (v :: o) := ⟨fun x hx => by
    rcases List.mem_cons.1 hx with rfl | hx
    · exact hv
    · exact h.1 x hx, List.nodup_cons.2 ⟨hm, h.2⟩⟩
  have := h1.len
  simp at this
  omega
theorem nb_mem {o : List Nat} {j : Nat} (h : j < o.length) : nb o j ∈ o := by rw [nb]; simp [List.getD, List.getElem?_eq_getElem h]
theorem natVerts.at_ {n j : Nat} {o : List Nat} (h : natVerts n o) (hj : j < o.length) : nb o j < n := h.1 _ (nb_mem hj)
theorem natVerts.inj {n i j : Nat} {o : List Nat} (h : natVerts n o) (hi : i < o.length) (hj : j < o.length) (e : nb o i = nb o j) : i = j := by
  have h1 : o[i] = o[j] := by
    unfold nb at e
    simpa [List.getD, List.getElem?_eq_getElem hi, List.getElem?_eq_getElem hj] using e
  have hp := List.pairwise_iff_getElem.1 h.2
  rcases Nat.lt_trichotomy i j with hlt | rfl | hlt
  · exact absurd h1 (hp i j hi hj hlt)
  · rfl
  · exact absurd h1.symm (hp j i hj hi hlt)
/-! Step by step -/
theorem vertsP_nil (n : Nat) : vertsP n [] := ⟨fun _ h => (by cases h), List.nodup_nil⟩
theorem vertsP_snoc {n : Nat} {l : List Int} {v : Int} : vertsP n (l ++ [v]) ↔ vertsP n l ∧ (0 ≤ v ∧ v < (n : Int)) ∧ v ∉ l := by
  unfold vertsP
  constructor
  · rintro ⟨h1, h2⟩
    rw [List.nodup_append] at h2
    refine ⟨⟨fun x hx => h1 x (List.mem_append_left _ hx), h2.1⟩, h1 v (by simp), fun hm => ?_⟩
    exact h2.2.2 v hm v (by simp) rfl
  · rintro ⟨⟨h1, h2⟩, h3, h4⟩
    refine ⟨fun x hx => ?_, ?_⟩
    · rcases List.mem_append.1 hx with hx | hx
      · exact h1 x hx
      · obtain rfl : x = v := by simpa using hx
        exact h3
    · rw [List.nodup_append]
      exact ⟨h2, by simp, fun a ha b hb e => by
        obtain rfl : b = v := by simpa using hb
        subst e
        exact h4 ha⟩
theorem vertsP.take {n : Nat} {l : List Int} (h : vertsP n l) (k : Nat) : vertsP n (l.take k) := ⟨fun v hv => h.1 v (List.mem_of_mem_take hv), h.2.sublist (List.take_sublist k l)⟩
theorem take_snocI {l : List Int} {k : Nat} (h : k < l.length) : l.take (k + 1) = l.take k ++ [l.getD k 0] := by
  rw [List.take_succ_eq_append_getElem h]
  simp [List.getD, List.getElem?_eq_getElem h]
theorem vertsP_out {n k : Nat} {l : List Int} (hk : k < l.length) (h : ¬ ((0 ≤ l.getD k 0 ∧ l.getD k 0 < (n : Int)) ∧ l.getD k 0 ∉ l.take k)) : ¬ vertsP n l := fun hv => by
  have := hv.take (k + 1)
  rw [take_snocI hk, vertsP_snoc] at this
  exact h this.2
end Go.Proofs.Ytfodbgogeclifaa
namespace Go.Proofs.Ytfodbgogeclifaa
/-! A list as a set. -/
def setZ (l : List Int) : Nat := l.foldl (fun a v => a ||| 2 ^ v.toNat) 0
theorem setZ_snoc (l : List Int) (v : Int) : setZ (l ++ [v]) = setZ l ||| 2 ^ v.toNat := by simp [setZ]
theorem testBit_setZ (l : List Int) (i : Nat) : (setZ l).testBit i = true ↔ ∃ v ∈ l, v.toNat = i := by
  have key : ∀ (l : List Int) (a : Nat), (l.foldl (fun a v => a ||| 2 ^ v.toNat) a).testBit i = true ↔ a.testBit i = true ∨ ∃ v ∈ l, v.toNat = i := by
    intro l
    induction l with
    | nil => intro a; simp
    | cons x l ih =>
      intro a
      rw [List.foldl_cons, ih, Nat.testBit_or, Nat.testBit_two_pow, Bool.or_eq_true, decide_eq_true_eq, or_assoc]
      simp only [List.mem_cons, exists_eq_or_imp]
  rw [setZ, key]
  simp
theorem setZ_lt {n : Nat} {l : List Int} (h : ∀ v ∈ l, 0 ≤ v ∧ v < (n : Int)) : setZ l < 2 ^ n := by
  refine Nat.lt_pow_two_of_testBit _ fun i hi => ?_
  rw [← Bool.not_eq_true, testBit_setZ]
  rintro ⟨v, hv, e⟩
  have := h v hv
  omega
theorem setZ_iff {n : Nat} {l : List Int} (h : vertsP 7 l) : setZ l < 2 ^ n ↔ ∀ v ∈ l, 0 ≤ v ∧ v < (n : Int) := by
  constructor
  · intro hs v hv
    have h0 := h.1 v hv
    have : (setZ l).testBit v.toNat = true := (testBit_setZ l _).2 ⟨v, hv, rfl⟩
    have := bit_lt hs this
    omega
  · exact setZ_lt
theorem vertsP.mono {n m : Nat} {l : List Int} (h : vertsP n l) (hm : n ≤ m) : vertsP m l := ⟨fun v hv => by have := h.1 v hv; omega, h.2⟩
theorem isSet_setZ {n : Nat} {Q : List Nat} {l : List Int} (h : GOk n Q) (hv : vertsP 7 l) : isSet n (ints Q) (setZ l) = decide (vertsP n l) := by
  rw [Bool.eq_iff_iff, isSet_iff h.is, ints_len, h.len, decide_eq_true_eq]
  have := setZ_iff (n := n) hv
  constructor
  · rintro ⟨_, h2⟩; exact ⟨this.1 (by omega), hv.2⟩
  · rintro ⟨h1, _⟩
    have := this.2 h1
    omega
theorem setZ_bit {l : List Int} (h : ∀ v ∈ l, 0 ≤ v ∧ v < 7) {x : Nat} : (setZ l).testBit x = decide ((x : Int) ∈ l) := by
  rw [Bool.eq_iff_iff, testBit_setZ, decide_eq_true_eq]
  constructor
  · rintro ⟨v, hv, e⟩
    have := h v hv
    have : v = (x : Int) := by omega
    exact this ▸ hv
  · exact fun hx => ⟨_, hx, by simp⟩
end Go.Proofs.Ytfodbgogeclifaa
